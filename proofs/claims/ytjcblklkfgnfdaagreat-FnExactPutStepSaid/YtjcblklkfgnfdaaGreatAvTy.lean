/- Facts on the types of this seat, each by the kernel. -/
import Derived.Test.YtjcblklkfgnfdaaGreatAvE
import Derived.Test.YtjcblklkfgnfdaaGreatProg
import Derived.KernelRfl
set_option linter.all false
set_option linter.unusedVariables false
set_option linter.unusedSimpArgs false

section
namespace Go.Av
open Go.Proofs
theorem tyS1 : tySize Tryz.prog 1 = 1 := by kernel_rfl
theorem tyA1 : tyAgg Tryz.prog 1 = some false := by kernel_rfl
theorem tyS2 : tySize Tryz.prog 2 = 1 := by kernel_rfl
theorem tyA2 : tyAgg Tryz.prog 2 = some false := by kernel_rfl
theorem tyG2 : tyTag Tryz.prog 2 = none := by kernel_rfl
theorem tyI2 : tyInt Tryz.prog 2 = some .i64 := by kernel_rfl
theorem tyY2 : tyBytes Tryz.prog 2 = 8 := by kernel_rfl
theorem tyZ2 : tyZero Tryz.prog 2 = some [.d (.i .i64 0)] := by kernel_rfl
theorem tyW2 : tyZeroT Tryz.prog 2 = some [.i .i64 0] := by kernel_rfl
theorem tyS3 : tySize Tryz.prog 3 = 1 := by kernel_rfl
theorem tyA3 : tyAgg Tryz.prog 3 = some false := by kernel_rfl
theorem tyL3 : elAnn Tryz.prog 3 = .any := by kernel_rfl
theorem tyG3 : tyTag Tryz.prog 3 = none := by kernel_rfl
theorem tyI3 : tyInt Tryz.prog 3 = some .i64 := by kernel_rfl
theorem tyY3 : tyBytes Tryz.prog 3 = 8 := by kernel_rfl
theorem tyZ3 : tyZero Tryz.prog 3 = some [.d (.i .i64 0)] := by kernel_rfl
theorem tyW3 : tyZeroT Tryz.prog 3 = some [.i .i64 0] := by kernel_rfl
theorem tyS4 : tySize Tryz.prog 4 = 1 := by kernel_rfl
theorem tyA4 : tyAgg Tryz.prog 4 = some false := by kernel_rfl
theorem tyG4 : tyTag Tryz.prog 4 = none := by kernel_rfl
theorem tyB4 : tyBool Tryz.prog 4 = true := by kernel_rfl
theorem tyY4 : tyBytes Tryz.prog 4 = 1 := by kernel_rfl
theorem tyZ4 : tyZero Tryz.prog 4 = some [.d (.b false)] := by kernel_rfl
theorem tyW4 : tyZeroT Tryz.prog 4 = some [.b false] := by kernel_rfl
theorem tyS5 : tySize Tryz.prog 5 = 1 := by kernel_rfl
theorem tyA5 : tyAgg Tryz.prog 5 = some false := by kernel_rfl
theorem tyL5 : elAnn Tryz.prog 5 = .u8 5 := by kernel_rfl
theorem tyG5 : tyTag Tryz.prog 5 = none := by kernel_rfl
theorem tyI5 : tyInt Tryz.prog 5 = some .u8 := by kernel_rfl
theorem tyY5 : tyBytes Tryz.prog 5 = 1 := by kernel_rfl
theorem tyZ5 : tyZero Tryz.prog 5 = some [.d (.i .u8 0)] := by kernel_rfl
theorem tyW5 : tyZeroT Tryz.prog 5 = some [.i .u8 0] := by kernel_rfl
theorem tyS6 : tySize Tryz.prog 6 = 1 := by kernel_rfl
theorem tyA6 : tyAgg Tryz.prog 6 = some false := by kernel_rfl
theorem tyG6 : tyTag Tryz.prog 6 = none := by kernel_rfl
theorem tyI6 : tyInt Tryz.prog 6 = some .u8 := by kernel_rfl
theorem tyY6 : tyBytes Tryz.prog 6 = 1 := by kernel_rfl
theorem tyZ6 : tyZero Tryz.prog 6 = some [.d (.i .u8 0)] := by kernel_rfl
theorem tyW6 : tyZeroT Tryz.prog 6 = some [.i .u8 0] := by kernel_rfl
theorem tyS7 : tySize Tryz.prog 7 = 4 := by kernel_rfl
theorem tyA7 : tyAgg Tryz.prog 7 = some true := by kernel_rfl
theorem tyG7 : tyTag Tryz.prog 7 = none := by kernel_rfl
theorem tyY7 : tyBytes Tryz.prog 7 = 24 := by kernel_rfl
theorem tyZ7 : tyZero Tryz.prog 7 = some [.d (.i .i64 0), .d (.i .i64 0), .d (.b false), .d (.i .u8 0)] := by kernel_rfl
theorem tyW7 : tyZeroT Tryz.prog 7 = some [.i .i64 0, .i .i64 0, .b false, .i .u8 0] := by kernel_rfl
theorem tyO7_0 : tyOff Tryz.prog 7 0 = some 0 := by kernel_rfl
theorem tyO7_1 : tyOff Tryz.prog 7 1 = some 1 := by kernel_rfl
theorem tyO7_2 : tyOff Tryz.prog 7 2 = some 2 := by kernel_rfl
theorem tyO7_3 : tyOff Tryz.prog 7 3 = some 3 := by kernel_rfl
theorem tyF7 : tyFlds Tryz.prog 7 = some [(0, 1), (1, 1), (2, 1), (3, 1)] := by kernel_rfl
theorem tyS8 : tySize Tryz.prog 8 = 4 := by kernel_rfl
theorem tyA8 : tyAgg Tryz.prog 8 = some true := by kernel_rfl
theorem tyG8 : tyTag Tryz.prog 8 = none := by kernel_rfl
theorem tyY8 : tyBytes Tryz.prog 8 = 24 := by kernel_rfl
theorem tyZ8 : tyZero Tryz.prog 8 = some [.d (.i .i64 0), .d (.i .i64 0), .d (.b false), .d (.i .u8 0)] := by kernel_rfl
theorem tyW8 : tyZeroT Tryz.prog 8 = some [.i .i64 0, .i .i64 0, .b false, .i .u8 0] := by kernel_rfl
theorem tyO8_0 : tyOff Tryz.prog 8 0 = some 0 := by kernel_rfl
theorem tyO8_1 : tyOff Tryz.prog 8 1 = some 1 := by kernel_rfl
theorem tyO8_2 : tyOff Tryz.prog 8 2 = some 2 := by kernel_rfl
theorem tyO8_3 : tyOff Tryz.prog 8 3 = some 3 := by kernel_rfl
theorem tyF8 : tyFlds Tryz.prog 8 = some [(0, 1), (1, 1), (2, 1), (3, 1)] := by kernel_rfl
theorem tyS9 : tySize Tryz.prog 9 = 1 := by kernel_rfl
theorem tyA9 : tyAgg Tryz.prog 9 = some false := by kernel_rfl
theorem tyL9 : elAnn Tryz.prog 9 = .any := by kernel_rfl
theorem tyG9 : tyTag Tryz.prog 9 = none := by kernel_rfl
theorem tyT9 : tyStr Tryz.prog 9 = true := by kernel_rfl
theorem tyI9 : tyInt Tryz.prog 9 = none := by kernel_rfl
theorem tyY9 : tyBytes Tryz.prog 9 = 16 := by kernel_rfl
theorem tyZ9 : tyZero Tryz.prog 9 = some [.d (.s ⟨#[]⟩)] := by kernel_rfl
theorem tyW9 : tyZeroT Tryz.prog 9 = some [.s ⟨#[]⟩] := by kernel_rfl
theorem tyS10 : tySize Tryz.prog 10 = 1 := by kernel_rfl
theorem tyA10 : tyAgg Tryz.prog 10 = some false := by kernel_rfl
theorem tyG10 : tyTag Tryz.prog 10 = none := by kernel_rfl
theorem tyT10 : tyStr Tryz.prog 10 = true := by kernel_rfl
theorem tyI10 : tyInt Tryz.prog 10 = none := by kernel_rfl
theorem tyY10 : tyBytes Tryz.prog 10 = 16 := by kernel_rfl
theorem tyZ10 : tyZero Tryz.prog 10 = some [.d (.s ⟨#[]⟩)] := by kernel_rfl
theorem tyW10 : tyZeroT Tryz.prog 10 = some [.s ⟨#[]⟩] := by kernel_rfl
theorem tyS11 : tySize Tryz.prog 11 = 1 := by kernel_rfl
theorem tyA11 : tyAgg Tryz.prog 11 = some false := by kernel_rfl
theorem tyG11 : tyTag Tryz.prog 11 = none := by kernel_rfl
theorem tyT11 : tyStr Tryz.prog 11 = true := by kernel_rfl
theorem tyI11 : tyInt Tryz.prog 11 = none := by kernel_rfl
theorem tyY11 : tyBytes Tryz.prog 11 = 16 := by kernel_rfl
theorem tyZ11 : tyZero Tryz.prog 11 = some [.d (.s ⟨#[]⟩)] := by kernel_rfl
theorem tyW11 : tyZeroT Tryz.prog 11 = some [.s ⟨#[]⟩] := by kernel_rfl
theorem tyS12 : tySize Tryz.prog 12 = 1 := by kernel_rfl
theorem tyA12 : tyAgg Tryz.prog 12 = some false := by kernel_rfl
theorem tyG12 : tyTag Tryz.prog 12 = none := by kernel_rfl
theorem tyI12 : tyInt Tryz.prog 12 = some .u64 := by kernel_rfl
theorem tyY12 : tyBytes Tryz.prog 12 = 8 := by kernel_rfl
theorem tyZ12 : tyZero Tryz.prog 12 = some [.d (.i .u64 0)] := by kernel_rfl
theorem tyW12 : tyZeroT Tryz.prog 12 = some [.i .u64 0] := by kernel_rfl
theorem tyS13 : tySize Tryz.prog 13 = 2 := by kernel_rfl
theorem tyA13 : tyAgg Tryz.prog 13 = some true := by kernel_rfl
theorem tyG13 : tyTag Tryz.prog 13 = none := by kernel_rfl
theorem tyY13 : tyBytes Tryz.prog 13 = 24 := by kernel_rfl
theorem tyZ13 : tyZero Tryz.prog 13 = some [.d (.s ⟨#[]⟩), .d (.i .u64 0)] := by kernel_rfl
theorem tyW13 : tyZeroT Tryz.prog 13 = some [.s ⟨#[]⟩, .i .u64 0] := by kernel_rfl
theorem tyO13_0 : tyOff Tryz.prog 13 0 = some 0 := by kernel_rfl
theorem tyO13_1 : tyOff Tryz.prog 13 1 = some 1 := by kernel_rfl
theorem tyF13 : tyFlds Tryz.prog 13 = some [(0, 1), (1, 1)] := by kernel_rfl
theorem tyS14 : tySize Tryz.prog 14 = 2 := by kernel_rfl
theorem tyA14 : tyAgg Tryz.prog 14 = some true := by kernel_rfl
theorem tyG14 : tyTag Tryz.prog 14 = none := by kernel_rfl
theorem tyY14 : tyBytes Tryz.prog 14 = 24 := by kernel_rfl
theorem tyZ14 : tyZero Tryz.prog 14 = some [.d (.s ⟨#[]⟩), .d (.i .u64 0)] := by kernel_rfl
theorem tyW14 : tyZeroT Tryz.prog 14 = some [.s ⟨#[]⟩, .i .u64 0] := by kernel_rfl
theorem tyO14_0 : tyOff Tryz.prog 14 0 = some 0 := by kernel_rfl
theorem tyO14_1 : tyOff Tryz.prog 14 1 = some 1 := by kernel_rfl
theorem tyF14 : tyFlds Tryz.prog 14 = some [(0, 1), (1, 1)] := by kernel_rfl
theorem tyS15 : tySize Tryz.prog 15 = 1 := by kernel_rfl
theorem tyA15 : tyAgg Tryz.prog 15 = some false := by kernel_rfl
theorem tyG15 : tyTag Tryz.prog 15 = none := by kernel_rfl
theorem tyQ15 : tyPtr Tryz.prog 15 = some 213 := by kernel_rfl
theorem tyI15 : tyInt Tryz.prog 15 = none := by kernel_rfl
theorem tyT15 : tyStr Tryz.prog 15 = false := by kernel_rfl
theorem tyU15 : tyUns Tryz.prog 15 = false := by kernel_rfl
theorem tyZ15 : tyZero Tryz.prog 15 = some [.d (.raw (.pointer none))] := by kernel_rfl
theorem tyS16 : tySize Tryz.prog 16 = 1 := by kernel_rfl
theorem tyA16 : tyAgg Tryz.prog 16 = some false := by kernel_rfl
theorem tyG16 : tyTag Tryz.prog 16 = none := by kernel_rfl
theorem tyQ16 : tyPtr Tryz.prog 16 = some 216 := by kernel_rfl
theorem tyI16 : tyInt Tryz.prog 16 = none := by kernel_rfl
theorem tyT16 : tyStr Tryz.prog 16 = false := by kernel_rfl
theorem tyU16 : tyUns Tryz.prog 16 = false := by kernel_rfl
theorem tyZ16 : tyZero Tryz.prog 16 = some [.d (.raw (.pointer none))] := by kernel_rfl
theorem tyS17 : tySize Tryz.prog 17 = 1 := by kernel_rfl
theorem tyA17 : tyAgg Tryz.prog 17 = some false := by kernel_rfl
theorem tyG17 : tyTag Tryz.prog 17 = none := by kernel_rfl
theorem tyQ17 : tyPtr Tryz.prog 17 = some 224 := by kernel_rfl
theorem tyI17 : tyInt Tryz.prog 17 = none := by kernel_rfl
theorem tyT17 : tyStr Tryz.prog 17 = false := by kernel_rfl
theorem tyU17 : tyUns Tryz.prog 17 = false := by kernel_rfl
theorem tyZ17 : tyZero Tryz.prog 17 = some [.d (.raw (.pointer none))] := by kernel_rfl
theorem tyS18 : tySize Tryz.prog 18 = 1 := by kernel_rfl
theorem tyA18 : tyAgg Tryz.prog 18 = some true := by kernel_rfl
theorem tyG18 : tyTag Tryz.prog 18 = none := by kernel_rfl
theorem tyY18 : tyBytes Tryz.prog 18 = 8 := by kernel_rfl
theorem tyZ18 : tyZero Tryz.prog 18 = some [.d (.raw (.pointer none))] := by kernel_rfl
theorem tyO18_0 : tyOff Tryz.prog 18 0 = some 0 := by kernel_rfl
theorem tyF18 : tyFlds Tryz.prog 18 = some [(0, 1)] := by kernel_rfl
theorem tyS19 : tySize Tryz.prog 19 = 1 := by kernel_rfl
theorem tyA19 : tyAgg Tryz.prog 19 = some true := by kernel_rfl
theorem tyG19 : tyTag Tryz.prog 19 = none := by kernel_rfl
theorem tyY19 : tyBytes Tryz.prog 19 = 8 := by kernel_rfl
theorem tyZ19 : tyZero Tryz.prog 19 = some [.d (.raw (.pointer none))] := by kernel_rfl
theorem tyO19_0 : tyOff Tryz.prog 19 0 = some 0 := by kernel_rfl
theorem tyF19 : tyFlds Tryz.prog 19 = some [(0, 1)] := by kernel_rfl
theorem tyS21 : tySize Tryz.prog 21 = 1 := by kernel_rfl
theorem tyA21 : tyAgg Tryz.prog 21 = some false := by kernel_rfl
theorem tyG21 : tyTag Tryz.prog 21 = none := by kernel_rfl
theorem tyI21 : tyInt Tryz.prog 21 = some .i32 := by kernel_rfl
theorem tyY21 : tyBytes Tryz.prog 21 = 4 := by kernel_rfl
theorem tyZ21 : tyZero Tryz.prog 21 = some [.d (.i .i32 0)] := by kernel_rfl
theorem tyW21 : tyZeroT Tryz.prog 21 = some [.i .i32 0] := by kernel_rfl
theorem tyS22 : tySize Tryz.prog 22 = 1 := by kernel_rfl
theorem tyA22 : tyAgg Tryz.prog 22 = some false := by kernel_rfl
theorem tyE22 : tyElem Tryz.prog 22 = some 9 := by kernel_rfl
theorem tyI22 : tyInt Tryz.prog 22 = none := by kernel_rfl
theorem tyT22 : tyStr Tryz.prog 22 = false := by kernel_rfl
theorem tyL22 : elAnn Tryz.prog 22 = .any := by kernel_rfl
theorem tyG22 : tyTag Tryz.prog 22 = none := by kernel_rfl
theorem tyY22 : tyBytes Tryz.prog 22 = 24 := by kernel_rfl
theorem tyZ22 : tyZero Tryz.prog 22 = some [.nl] := by kernel_rfl
theorem tyW22 : tyZeroT Tryz.prog 22 = some [.sl .any []] := by kernel_rfl
theorem tyS23 : tySize Tryz.prog 23 = 1 := by kernel_rfl
theorem tyA23 : tyAgg Tryz.prog 23 = some false := by kernel_rfl
theorem tyE23 : tyElem Tryz.prog 23 = some 101 := by kernel_rfl
theorem tyI23 : tyInt Tryz.prog 23 = none := by kernel_rfl
theorem tyT23 : tyStr Tryz.prog 23 = false := by kernel_rfl
theorem tyG23 : tyTag Tryz.prog 23 = none := by kernel_rfl
theorem tyY23 : tyBytes Tryz.prog 23 = 24 := by kernel_rfl
theorem tyZ23 : tyZero Tryz.prog 23 = some [.nl] := by kernel_rfl
theorem tyW23 : tyZeroT Tryz.prog 23 = some [.sl .any []] := by kernel_rfl
theorem tyS24 : tySize Tryz.prog 24 = 5 := by kernel_rfl
theorem tyA24 : tyAgg Tryz.prog 24 = some true := by kernel_rfl
theorem tyG24 : tyTag Tryz.prog 24 = none := by kernel_rfl
theorem tyY24 : tyBytes Tryz.prog 24 = 88 := by kernel_rfl
theorem tyZ24 : tyZero Tryz.prog 24 = some [.d (.i .i64 0), .d (.s ⟨#[]⟩), .nl, .d (.s ⟨#[]⟩), .nl] := by kernel_rfl
theorem tyW24 : tyZeroT Tryz.prog 24 = some [.i .i64 0, .s ⟨#[]⟩, .sl .any [], .s ⟨#[]⟩, .sl .any []] := by kernel_rfl
theorem tyO24_0 : tyOff Tryz.prog 24 0 = some 0 := by kernel_rfl
theorem tyO24_1 : tyOff Tryz.prog 24 1 = some 1 := by kernel_rfl
theorem tyO24_2 : tyOff Tryz.prog 24 2 = some 2 := by kernel_rfl
theorem tyO24_3 : tyOff Tryz.prog 24 3 = some 3 := by kernel_rfl
theorem tyO24_4 : tyOff Tryz.prog 24 4 = some 4 := by kernel_rfl
theorem tyF24 : tyFlds Tryz.prog 24 = some [(0, 1), (1, 1), (2, 1), (3, 1), (4, 1)] := by kernel_rfl
theorem tyS25 : tySize Tryz.prog 25 = 5 := by kernel_rfl
theorem tyA25 : tyAgg Tryz.prog 25 = some true := by kernel_rfl
theorem tyG25 : tyTag Tryz.prog 25 = none := by kernel_rfl
theorem tyY25 : tyBytes Tryz.prog 25 = 88 := by kernel_rfl
theorem tyZ25 : tyZero Tryz.prog 25 = some [.d (.i .i64 0), .d (.s ⟨#[]⟩), .nl, .d (.s ⟨#[]⟩), .nl] := by kernel_rfl
theorem tyW25 : tyZeroT Tryz.prog 25 = some [.i .i64 0, .s ⟨#[]⟩, .sl .any [], .s ⟨#[]⟩, .sl .any []] := by kernel_rfl
theorem tyO25_0 : tyOff Tryz.prog 25 0 = some 0 := by kernel_rfl
theorem tyO25_1 : tyOff Tryz.prog 25 1 = some 1 := by kernel_rfl
theorem tyO25_2 : tyOff Tryz.prog 25 2 = some 2 := by kernel_rfl
theorem tyO25_3 : tyOff Tryz.prog 25 3 = some 3 := by kernel_rfl
theorem tyO25_4 : tyOff Tryz.prog 25 4 = some 4 := by kernel_rfl
theorem tyF25 : tyFlds Tryz.prog 25 = some [(0, 1), (1, 1), (2, 1), (3, 1), (4, 1)] := by kernel_rfl
theorem tyS26 : tySize Tryz.prog 26 = 1 := by kernel_rfl
theorem tyA26 : tyAgg Tryz.prog 26 = some false := by kernel_rfl
theorem tyS27 : tySize Tryz.prog 27 = 1 := by kernel_rfl
theorem tyA27 : tyAgg Tryz.prog 27 = some false := by kernel_rfl
theorem tyS28 : tySize Tryz.prog 28 = 1 := by kernel_rfl
theorem tyA28 : tyAgg Tryz.prog 28 = some false := by kernel_rfl
theorem tyE28 : tyElem Tryz.prog 28 = some 63 := by kernel_rfl
theorem tyI28 : tyInt Tryz.prog 28 = none := by kernel_rfl
theorem tyT28 : tyStr Tryz.prog 28 = false := by kernel_rfl
theorem tyG28 : tyTag Tryz.prog 28 = none := by kernel_rfl
theorem tyY28 : tyBytes Tryz.prog 28 = 24 := by kernel_rfl
theorem tyZ28 : tyZero Tryz.prog 28 = some [.nl] := by kernel_rfl
theorem tyW28 : tyZeroT Tryz.prog 28 = some [.sl .any []] := by kernel_rfl
theorem tyS29 : tySize Tryz.prog 29 = 5 := by kernel_rfl
theorem tyA29 : tyAgg Tryz.prog 29 = some true := by kernel_rfl
theorem tyG29 : tyTag Tryz.prog 29 = none := by kernel_rfl
theorem tyY29 : tyBytes Tryz.prog 29 = 88 := by kernel_rfl
theorem tyZ29 : tyZero Tryz.prog 29 = some [.d (.i .i64 0), .d (.s ⟨#[]⟩), .nl, .d (.s ⟨#[]⟩), .nl] := by kernel_rfl
theorem tyW29 : tyZeroT Tryz.prog 29 = some [.i .i64 0, .s ⟨#[]⟩, .sl .any [], .s ⟨#[]⟩, .sl .any []] := by kernel_rfl
theorem tyO29_0 : tyOff Tryz.prog 29 0 = some 0 := by kernel_rfl
theorem tyO29_1 : tyOff Tryz.prog 29 1 = some 1 := by kernel_rfl
theorem tyO29_2 : tyOff Tryz.prog 29 2 = some 2 := by kernel_rfl
theorem tyO29_3 : tyOff Tryz.prog 29 3 = some 3 := by kernel_rfl
theorem tyO29_4 : tyOff Tryz.prog 29 4 = some 4 := by kernel_rfl
theorem tyF29 : tyFlds Tryz.prog 29 = some [(0, 1), (1, 1), (2, 1), (3, 1), (4, 1)] := by kernel_rfl
theorem tyS30 : tySize Tryz.prog 30 = 5 := by kernel_rfl
theorem tyA30 : tyAgg Tryz.prog 30 = some true := by kernel_rfl
theorem tyL30 : elAnn Tryz.prog 30 = .any := by kernel_rfl
theorem tyG30 : tyTag Tryz.prog 30 = none := by kernel_rfl
theorem tyY30 : tyBytes Tryz.prog 30 = 88 := by kernel_rfl
theorem tyZ30 : tyZero Tryz.prog 30 = some [.d (.i .i64 0), .d (.s ⟨#[]⟩), .nl, .d (.s ⟨#[]⟩), .nl] := by kernel_rfl
theorem tyW30 : tyZeroT Tryz.prog 30 = some [.i .i64 0, .s ⟨#[]⟩, .sl .any [], .s ⟨#[]⟩, .sl .any []] := by kernel_rfl
theorem tyO30_0 : tyOff Tryz.prog 30 0 = some 0 := by kernel_rfl
theorem tyO30_1 : tyOff Tryz.prog 30 1 = some 1 := by kernel_rfl
theorem tyO30_2 : tyOff Tryz.prog 30 2 = some 2 := by kernel_rfl
theorem tyO30_3 : tyOff Tryz.prog 30 3 = some 3 := by kernel_rfl
theorem tyO30_4 : tyOff Tryz.prog 30 4 = some 4 := by kernel_rfl
theorem tyF30 : tyFlds Tryz.prog 30 = some [(0, 1), (1, 1), (2, 1), (3, 1), (4, 1)] := by kernel_rfl
theorem tyS31 : tySize Tryz.prog 31 = 1 := by kernel_rfl
theorem tyA31 : tyAgg Tryz.prog 31 = some false := by kernel_rfl
theorem tyS32 : tySize Tryz.prog 32 = 1 := by kernel_rfl
theorem tyA32 : tyAgg Tryz.prog 32 = some false := by kernel_rfl
theorem tyS33 : tySize Tryz.prog 33 = 1 := by kernel_rfl
theorem tyA33 : tyAgg Tryz.prog 33 = some false := by kernel_rfl
theorem tyS35 : tySize Tryz.prog 35 = 1 := by kernel_rfl
theorem tyA35 : tyAgg Tryz.prog 35 = some false := by kernel_rfl
theorem tyS36 : tySize Tryz.prog 36 = 1 := by kernel_rfl
theorem tyA36 : tyAgg Tryz.prog 36 = some false := by kernel_rfl
theorem tyS38 : tySize Tryz.prog 38 = 1 := by kernel_rfl
theorem tyA38 : tyAgg Tryz.prog 38 = some false := by kernel_rfl
theorem tyS39 : tySize Tryz.prog 39 = 1 := by kernel_rfl
theorem tyA39 : tyAgg Tryz.prog 39 = some false := by kernel_rfl
theorem tyS40 : tySize Tryz.prog 40 = 1 := by kernel_rfl
theorem tyA40 : tyAgg Tryz.prog 40 = some false := by kernel_rfl
theorem tyS41 : tySize Tryz.prog 41 = 1 := by kernel_rfl
theorem tyA41 : tyAgg Tryz.prog 41 = some false := by kernel_rfl
theorem tyE41 : tyElem Tryz.prog 41 = some 30 := by kernel_rfl
theorem tyI41 : tyInt Tryz.prog 41 = none := by kernel_rfl
theorem tyT41 : tyStr Tryz.prog 41 = false := by kernel_rfl
theorem tyG41 : tyTag Tryz.prog 41 = none := by kernel_rfl
theorem tyY41 : tyBytes Tryz.prog 41 = 24 := by kernel_rfl
theorem tyZ41 : tyZero Tryz.prog 41 = some [.nl] := by kernel_rfl
theorem tyW41 : tyZeroT Tryz.prog 41 = some [.sl .any []] := by kernel_rfl
theorem tyS43 : tySize Tryz.prog 43 = 1 := by kernel_rfl
theorem tyA43 : tyAgg Tryz.prog 43 = some false := by kernel_rfl
theorem tyS44 : tySize Tryz.prog 44 = 1 := by kernel_rfl
theorem tyA44 : tyAgg Tryz.prog 44 = some false := by kernel_rfl
theorem tyS45 : tySize Tryz.prog 45 = 1 := by kernel_rfl
theorem tyA45 : tyAgg Tryz.prog 45 = some false := by kernel_rfl
theorem tyS46 : tySize Tryz.prog 46 = 1 := by kernel_rfl
theorem tyA46 : tyAgg Tryz.prog 46 = some false := by kernel_rfl
theorem tyE46 : tyElem Tryz.prog 46 = some 5 := by kernel_rfl
theorem tyI46 : tyInt Tryz.prog 46 = none := by kernel_rfl
theorem tyT46 : tyStr Tryz.prog 46 = false := by kernel_rfl
theorem tyG46 : tyTag Tryz.prog 46 = none := by kernel_rfl
theorem tyY46 : tyBytes Tryz.prog 46 = 24 := by kernel_rfl
theorem tyZ46 : tyZero Tryz.prog 46 = some [.nl] := by kernel_rfl
theorem tyW46 : tyZeroT Tryz.prog 46 = some [.sl .any []] := by kernel_rfl
theorem tyS47 : tySize Tryz.prog 47 = 1 := by kernel_rfl
theorem tyA47 : tyAgg Tryz.prog 47 = some false := by kernel_rfl
theorem tyS49 : tySize Tryz.prog 49 = 1 := by kernel_rfl
theorem tyA49 : tyAgg Tryz.prog 49 = some false := by kernel_rfl
theorem tyS50 : tySize Tryz.prog 50 = 1 := by kernel_rfl
theorem tyA50 : tyAgg Tryz.prog 50 = some false := by kernel_rfl
theorem tyS51 : tySize Tryz.prog 51 = 1 := by kernel_rfl
theorem tyA51 : tyAgg Tryz.prog 51 = some false := by kernel_rfl
theorem tyG51 : tyTag Tryz.prog 51 = none := by kernel_rfl
theorem tyI51 : tyInt Tryz.prog 51 = some .u32 := by kernel_rfl
theorem tyY51 : tyBytes Tryz.prog 51 = 4 := by kernel_rfl
theorem tyZ51 : tyZero Tryz.prog 51 = some [.d (.i .u32 0)] := by kernel_rfl
theorem tyW51 : tyZeroT Tryz.prog 51 = some [.i .u32 0] := by kernel_rfl
theorem tyS52 : tySize Tryz.prog 52 = 1 := by kernel_rfl
theorem tyA52 : tyAgg Tryz.prog 52 = some false := by kernel_rfl
theorem tyS53 : tySize Tryz.prog 53 = 1 := by kernel_rfl
theorem tyA53 : tyAgg Tryz.prog 53 = some false := by kernel_rfl
theorem tyS54 : tySize Tryz.prog 54 = 1 := by kernel_rfl
theorem tyA54 : tyAgg Tryz.prog 54 = some false := by kernel_rfl
theorem tyS55 : tySize Tryz.prog 55 = 1 := by kernel_rfl
theorem tyA55 : tyAgg Tryz.prog 55 = some false := by kernel_rfl
theorem tyS56 : tySize Tryz.prog 56 = 1 := by kernel_rfl
theorem tyA56 : tyAgg Tryz.prog 56 = some false := by kernel_rfl
theorem tyS57 : tySize Tryz.prog 57 = 1 := by kernel_rfl
theorem tyA57 : tyAgg Tryz.prog 57 = some false := by kernel_rfl
theorem tyS58 : tySize Tryz.prog 58 = 1 := by kernel_rfl
theorem tyA58 : tyAgg Tryz.prog 58 = some false := by kernel_rfl
theorem tyS59 : tySize Tryz.prog 59 = 1 := by kernel_rfl
theorem tyA59 : tyAgg Tryz.prog 59 = some false := by kernel_rfl
theorem tyE59 : tyElem Tryz.prog 59 = some 108 := by kernel_rfl
theorem tyI59 : tyInt Tryz.prog 59 = none := by kernel_rfl
theorem tyT59 : tyStr Tryz.prog 59 = false := by kernel_rfl
theorem tyG59 : tyTag Tryz.prog 59 = none := by kernel_rfl
theorem tyY59 : tyBytes Tryz.prog 59 = 24 := by kernel_rfl
theorem tyZ59 : tyZero Tryz.prog 59 = some [.nl] := by kernel_rfl
theorem tyW59 : tyZeroT Tryz.prog 59 = some [.sl .any []] := by kernel_rfl
theorem tyS60 : tySize Tryz.prog 60 = 2 := by kernel_rfl
theorem tyA60 : tyAgg Tryz.prog 60 = some true := by kernel_rfl
theorem tyG60 : tyTag Tryz.prog 60 = none := by kernel_rfl
theorem tyY60 : tyBytes Tryz.prog 60 = 32 := by kernel_rfl
theorem tyZ60 : tyZero Tryz.prog 60 = some [.d (.i .i64 0), .nl] := by kernel_rfl
theorem tyW60 : tyZeroT Tryz.prog 60 = some [.i .i64 0, .sl .any []] := by kernel_rfl
theorem tyO60_0 : tyOff Tryz.prog 60 0 = some 0 := by kernel_rfl
theorem tyO60_1 : tyOff Tryz.prog 60 1 = some 1 := by kernel_rfl
theorem tyF60 : tyFlds Tryz.prog 60 = some [(0, 1), (1, 1)] := by kernel_rfl
theorem tyS61 : tySize Tryz.prog 61 = 2 := by kernel_rfl
theorem tyA61 : tyAgg Tryz.prog 61 = some true := by kernel_rfl
theorem tyG61 : tyTag Tryz.prog 61 = none := by kernel_rfl
theorem tyY61 : tyBytes Tryz.prog 61 = 32 := by kernel_rfl
theorem tyZ61 : tyZero Tryz.prog 61 = some [.d (.i .i64 0), .nl] := by kernel_rfl
theorem tyW61 : tyZeroT Tryz.prog 61 = some [.i .i64 0, .sl .any []] := by kernel_rfl
theorem tyO61_0 : tyOff Tryz.prog 61 0 = some 0 := by kernel_rfl
theorem tyO61_1 : tyOff Tryz.prog 61 1 = some 1 := by kernel_rfl
theorem tyF61 : tyFlds Tryz.prog 61 = some [(0, 1), (1, 1)] := by kernel_rfl
theorem tyS62 : tySize Tryz.prog 62 = 3 := by kernel_rfl
theorem tyA62 : tyAgg Tryz.prog 62 = some true := by kernel_rfl
theorem tyG62 : tyTag Tryz.prog 62 = none := by kernel_rfl
theorem tyY62 : tyBytes Tryz.prog 62 = 48 := by kernel_rfl
theorem tyZ62 : tyZero Tryz.prog 62 = some [.d (.s ⟨#[]⟩), .d (.i .i64 0), .nl] := by kernel_rfl
theorem tyW62 : tyZeroT Tryz.prog 62 = some [.s ⟨#[]⟩, .i .i64 0, .sl .any []] := by kernel_rfl
theorem tyO62_0 : tyOff Tryz.prog 62 0 = some 0 := by kernel_rfl
theorem tyO62_1 : tyOff Tryz.prog 62 1 = some 1 := by kernel_rfl
theorem tyF62 : tyFlds Tryz.prog 62 = some [(0, 1), (1, 2)] := by kernel_rfl
theorem tyS63 : tySize Tryz.prog 63 = 3 := by kernel_rfl
theorem tyA63 : tyAgg Tryz.prog 63 = some true := by kernel_rfl
theorem tyL63 : elAnn Tryz.prog 63 = .any := by kernel_rfl
theorem tyG63 : tyTag Tryz.prog 63 = none := by kernel_rfl
theorem tyY63 : tyBytes Tryz.prog 63 = 48 := by kernel_rfl
theorem tyZ63 : tyZero Tryz.prog 63 = some [.d (.s ⟨#[]⟩), .d (.i .i64 0), .nl] := by kernel_rfl
theorem tyW63 : tyZeroT Tryz.prog 63 = some [.s ⟨#[]⟩, .i .i64 0, .sl .any []] := by kernel_rfl
theorem tyO63_0 : tyOff Tryz.prog 63 0 = some 0 := by kernel_rfl
theorem tyO63_1 : tyOff Tryz.prog 63 1 = some 1 := by kernel_rfl
theorem tyF63 : tyFlds Tryz.prog 63 = some [(0, 1), (1, 2)] := by kernel_rfl
theorem tyS64 : tySize Tryz.prog 64 = 1 := by kernel_rfl
theorem tyA64 : tyAgg Tryz.prog 64 = some false := by kernel_rfl
theorem tyS65 : tySize Tryz.prog 65 = 1 := by kernel_rfl
theorem tyA65 : tyAgg Tryz.prog 65 = some false := by kernel_rfl
theorem tyS66 : tySize Tryz.prog 66 = 1 := by kernel_rfl
theorem tyA66 : tyAgg Tryz.prog 66 = some false := by kernel_rfl
theorem tyS67 : tySize Tryz.prog 67 = 1 := by kernel_rfl
theorem tyA67 : tyAgg Tryz.prog 67 = some false := by kernel_rfl
theorem tyS68 : tySize Tryz.prog 68 = 1 := by kernel_rfl
theorem tyA68 : tyAgg Tryz.prog 68 = some false := by kernel_rfl
theorem tyS70 : tySize Tryz.prog 70 = 1 := by kernel_rfl
theorem tyA70 : tyAgg Tryz.prog 70 = some false := by kernel_rfl
theorem tyS72 : tySize Tryz.prog 72 = 1 := by kernel_rfl
theorem tyA72 : tyAgg Tryz.prog 72 = some false := by kernel_rfl
theorem tyS74 : tySize Tryz.prog 74 = 1 := by kernel_rfl
theorem tyA74 : tyAgg Tryz.prog 74 = some false := by kernel_rfl
theorem tyS75 : tySize Tryz.prog 75 = 1 := by kernel_rfl
theorem tyA75 : tyAgg Tryz.prog 75 = some false := by kernel_rfl
theorem tyG75 : tyTag Tryz.prog 75 = none := by kernel_rfl
theorem tyQ75 : tyPtr Tryz.prog 75 = some 77 := by kernel_rfl
theorem tyI75 : tyInt Tryz.prog 75 = none := by kernel_rfl
theorem tyT75 : tyStr Tryz.prog 75 = false := by kernel_rfl
theorem tyU75 : tyUns Tryz.prog 75 = false := by kernel_rfl
theorem tyZ75 : tyZero Tryz.prog 75 = some [.d (.raw (.pointer none))] := by kernel_rfl
theorem tyS76 : tySize Tryz.prog 76 = 3 := by kernel_rfl
theorem tyA76 : tyAgg Tryz.prog 76 = some true := by kernel_rfl
theorem tyG76 : tyTag Tryz.prog 76 = none := by kernel_rfl
theorem tyY76 : tyBytes Tryz.prog 76 = 32 := by kernel_rfl
theorem tyZ76 : tyZero Tryz.prog 76 = some [.d (.s ⟨#[]⟩), .d (.i .i64 0), .d (.b false)] := by kernel_rfl
theorem tyW76 : tyZeroT Tryz.prog 76 = some [.s ⟨#[]⟩, .i .i64 0, .b false] := by kernel_rfl
theorem tyO76_0 : tyOff Tryz.prog 76 0 = some 0 := by kernel_rfl
theorem tyO76_1 : tyOff Tryz.prog 76 1 = some 1 := by kernel_rfl
theorem tyO76_2 : tyOff Tryz.prog 76 2 = some 2 := by kernel_rfl
theorem tyF76 : tyFlds Tryz.prog 76 = some [(0, 1), (1, 1), (2, 1)] := by kernel_rfl
theorem tyS77 : tySize Tryz.prog 77 = 3 := by kernel_rfl
theorem tyA77 : tyAgg Tryz.prog 77 = some true := by kernel_rfl
theorem tyG77 : tyTag Tryz.prog 77 = none := by kernel_rfl
theorem tyY77 : tyBytes Tryz.prog 77 = 32 := by kernel_rfl
theorem tyZ77 : tyZero Tryz.prog 77 = some [.d (.s ⟨#[]⟩), .d (.i .i64 0), .d (.b false)] := by kernel_rfl
theorem tyW77 : tyZeroT Tryz.prog 77 = some [.s ⟨#[]⟩, .i .i64 0, .b false] := by kernel_rfl
theorem tyO77_0 : tyOff Tryz.prog 77 0 = some 0 := by kernel_rfl
theorem tyO77_1 : tyOff Tryz.prog 77 1 = some 1 := by kernel_rfl
theorem tyO77_2 : tyOff Tryz.prog 77 2 = some 2 := by kernel_rfl
theorem tyF77 : tyFlds Tryz.prog 77 = some [(0, 1), (1, 1), (2, 1)] := by kernel_rfl
theorem tyP77 : tyPlain Tryz.prog 77 = some [.s, .i, .b] := by kernel_rfl
theorem tyS78 : tySize Tryz.prog 78 = 1 := by kernel_rfl
theorem tyA78 : tyAgg Tryz.prog 78 = some false := by kernel_rfl
theorem tyS79 : tySize Tryz.prog 79 = 1 := by kernel_rfl
theorem tyA79 : tyAgg Tryz.prog 79 = some false := by kernel_rfl
theorem tyS80 : tySize Tryz.prog 80 = 1 := by kernel_rfl
theorem tyA80 : tyAgg Tryz.prog 80 = some false := by kernel_rfl
theorem tyS81 : tySize Tryz.prog 81 = 1 := by kernel_rfl
theorem tyA81 : tyAgg Tryz.prog 81 = some false := by kernel_rfl
theorem tyG81 : tyTag Tryz.prog 81 = none := by kernel_rfl
theorem tyQ81 : tyPtr Tryz.prog 81 = some 125 := by kernel_rfl
theorem tyI81 : tyInt Tryz.prog 81 = none := by kernel_rfl
theorem tyT81 : tyStr Tryz.prog 81 = false := by kernel_rfl
theorem tyU81 : tyUns Tryz.prog 81 = false := by kernel_rfl
theorem tyZ81 : tyZero Tryz.prog 81 = some [.d (.raw (.pointer none))] := by kernel_rfl
theorem tyS82 : tySize Tryz.prog 82 = 1 := by kernel_rfl
theorem tyA82 : tyAgg Tryz.prog 82 = some false := by kernel_rfl
theorem tyS83 : tySize Tryz.prog 83 = 1 := by kernel_rfl
theorem tyA83 : tyAgg Tryz.prog 83 = some false := by kernel_rfl
theorem tyS84 : tySize Tryz.prog 84 = 1 := by kernel_rfl
theorem tyA84 : tyAgg Tryz.prog 84 = some false := by kernel_rfl
theorem tyS85 : tySize Tryz.prog 85 = 1 := by kernel_rfl
theorem tyA85 : tyAgg Tryz.prog 85 = some false := by kernel_rfl
theorem tyS86 : tySize Tryz.prog 86 = 1 := by kernel_rfl
theorem tyA86 : tyAgg Tryz.prog 86 = some false := by kernel_rfl
theorem tyS87 : tySize Tryz.prog 87 = 1 := by kernel_rfl
theorem tyA87 : tyAgg Tryz.prog 87 = some false := by kernel_rfl
theorem tyS88 : tySize Tryz.prog 88 = 1 := by kernel_rfl
theorem tyA88 : tyAgg Tryz.prog 88 = some false := by kernel_rfl
theorem tyS89 : tySize Tryz.prog 89 = 1 := by kernel_rfl
theorem tyA89 : tyAgg Tryz.prog 89 = some false := by kernel_rfl
theorem tyS90 : tySize Tryz.prog 90 = 1 := by kernel_rfl
theorem tyA90 : tyAgg Tryz.prog 90 = some false := by kernel_rfl
theorem tyS91 : tySize Tryz.prog 91 = 1 := by kernel_rfl
theorem tyA91 : tyAgg Tryz.prog 91 = some false := by kernel_rfl
theorem tyS92 : tySize Tryz.prog 92 = 1 := by kernel_rfl
theorem tyA92 : tyAgg Tryz.prog 92 = some false := by kernel_rfl
theorem tyS93 : tySize Tryz.prog 93 = 2 := by kernel_rfl
theorem tyA93 : tyAgg Tryz.prog 93 = some true := by kernel_rfl
theorem tyG93 : tyTag Tryz.prog 93 = none := by kernel_rfl
theorem tyY93 : tyBytes Tryz.prog 93 = 40 := by kernel_rfl
theorem tyZ93 : tyZero Tryz.prog 93 = some [.d (.s ⟨#[]⟩), .nl] := by kernel_rfl
theorem tyW93 : tyZeroT Tryz.prog 93 = some [.s ⟨#[]⟩, .sl .any []] := by kernel_rfl
theorem tyO93_0 : tyOff Tryz.prog 93 0 = some 0 := by kernel_rfl
theorem tyO93_1 : tyOff Tryz.prog 93 1 = some 1 := by kernel_rfl
theorem tyF93 : tyFlds Tryz.prog 93 = some [(0, 1), (1, 1)] := by kernel_rfl
theorem tyS94 : tySize Tryz.prog 94 = 2 := by kernel_rfl
theorem tyA94 : tyAgg Tryz.prog 94 = some true := by kernel_rfl
theorem tyL94 : elAnn Tryz.prog 94 = .any := by kernel_rfl
theorem tyG94 : tyTag Tryz.prog 94 = none := by kernel_rfl
theorem tyY94 : tyBytes Tryz.prog 94 = 40 := by kernel_rfl
theorem tyZ94 : tyZero Tryz.prog 94 = some [.d (.s ⟨#[]⟩), .nl] := by kernel_rfl
theorem tyW94 : tyZeroT Tryz.prog 94 = some [.s ⟨#[]⟩, .sl .any []] := by kernel_rfl
theorem tyO94_0 : tyOff Tryz.prog 94 0 = some 0 := by kernel_rfl
theorem tyO94_1 : tyOff Tryz.prog 94 1 = some 1 := by kernel_rfl
theorem tyF94 : tyFlds Tryz.prog 94 = some [(0, 1), (1, 1)] := by kernel_rfl
theorem tyS95 : tySize Tryz.prog 95 = 1 := by kernel_rfl
theorem tyA95 : tyAgg Tryz.prog 95 = some false := by kernel_rfl
theorem tyE95 : tyElem Tryz.prog 95 = some 94 := by kernel_rfl
theorem tyI95 : tyInt Tryz.prog 95 = none := by kernel_rfl
theorem tyT95 : tyStr Tryz.prog 95 = false := by kernel_rfl
theorem tyG95 : tyTag Tryz.prog 95 = none := by kernel_rfl
theorem tyY95 : tyBytes Tryz.prog 95 = 24 := by kernel_rfl
theorem tyZ95 : tyZero Tryz.prog 95 = some [.nl] := by kernel_rfl
theorem tyW95 : tyZeroT Tryz.prog 95 = some [.sl .any []] := by kernel_rfl
theorem tyS96 : tySize Tryz.prog 96 = 1 := by kernel_rfl
theorem tyA96 : tyAgg Tryz.prog 96 = some false := by kernel_rfl
theorem tyS97 : tySize Tryz.prog 97 = 1 := by kernel_rfl
theorem tyA97 : tyAgg Tryz.prog 97 = some false := by kernel_rfl
theorem tyE97 : tyElem Tryz.prog 97 = some 180 := by kernel_rfl
theorem tyI97 : tyInt Tryz.prog 97 = none := by kernel_rfl
theorem tyT97 : tyStr Tryz.prog 97 = false := by kernel_rfl
theorem tyG97 : tyTag Tryz.prog 97 = none := by kernel_rfl
theorem tyY97 : tyBytes Tryz.prog 97 = 24 := by kernel_rfl
theorem tyZ97 : tyZero Tryz.prog 97 = some [.nl] := by kernel_rfl
theorem tyW97 : tyZeroT Tryz.prog 97 = some [.sl .any []] := by kernel_rfl
theorem tyS98 : tySize Tryz.prog 98 = 2 := by kernel_rfl
theorem tyA98 : tyAgg Tryz.prog 98 = some true := by kernel_rfl
theorem tyG98 : tyTag Tryz.prog 98 = none := by kernel_rfl
theorem tyY98 : tyBytes Tryz.prog 98 = 32 := by kernel_rfl
theorem tyZ98 : tyZero Tryz.prog 98 = some [.d (.i .i64 0), .nl] := by kernel_rfl
theorem tyW98 : tyZeroT Tryz.prog 98 = some [.i .i64 0, .sl .any []] := by kernel_rfl
theorem tyO98_0 : tyOff Tryz.prog 98 0 = some 0 := by kernel_rfl
theorem tyO98_1 : tyOff Tryz.prog 98 1 = some 1 := by kernel_rfl
theorem tyF98 : tyFlds Tryz.prog 98 = some [(0, 1), (1, 1)] := by kernel_rfl
theorem tyS99 : tySize Tryz.prog 99 = 2 := by kernel_rfl
theorem tyA99 : tyAgg Tryz.prog 99 = some true := by kernel_rfl
theorem tyG99 : tyTag Tryz.prog 99 = none := by kernel_rfl
theorem tyY99 : tyBytes Tryz.prog 99 = 32 := by kernel_rfl
theorem tyZ99 : tyZero Tryz.prog 99 = some [.d (.i .i64 0), .nl] := by kernel_rfl
theorem tyW99 : tyZeroT Tryz.prog 99 = some [.i .i64 0, .sl .any []] := by kernel_rfl
theorem tyO99_0 : tyOff Tryz.prog 99 0 = some 0 := by kernel_rfl
theorem tyO99_1 : tyOff Tryz.prog 99 1 = some 1 := by kernel_rfl
theorem tyF99 : tyFlds Tryz.prog 99 = some [(0, 1), (1, 1)] := by kernel_rfl
theorem tyS100 : tySize Tryz.prog 100 = 3 := by kernel_rfl
theorem tyA100 : tyAgg Tryz.prog 100 = some true := by kernel_rfl
theorem tyG100 : tyTag Tryz.prog 100 = none := by kernel_rfl
theorem tyY100 : tyBytes Tryz.prog 100 = 48 := by kernel_rfl
theorem tyZ100 : tyZero Tryz.prog 100 = some [.d (.s ⟨#[]⟩), .d (.i .i64 0), .nl] := by kernel_rfl
theorem tyW100 : tyZeroT Tryz.prog 100 = some [.s ⟨#[]⟩, .i .i64 0, .sl .any []] := by kernel_rfl
theorem tyO100_0 : tyOff Tryz.prog 100 0 = some 0 := by kernel_rfl
theorem tyO100_1 : tyOff Tryz.prog 100 1 = some 1 := by kernel_rfl
theorem tyF100 : tyFlds Tryz.prog 100 = some [(0, 1), (1, 2)] := by kernel_rfl
theorem tyS101 : tySize Tryz.prog 101 = 3 := by kernel_rfl
theorem tyA101 : tyAgg Tryz.prog 101 = some true := by kernel_rfl
theorem tyL101 : elAnn Tryz.prog 101 = .any := by kernel_rfl
theorem tyG101 : tyTag Tryz.prog 101 = none := by kernel_rfl
theorem tyY101 : tyBytes Tryz.prog 101 = 48 := by kernel_rfl
theorem tyZ101 : tyZero Tryz.prog 101 = some [.d (.s ⟨#[]⟩), .d (.i .i64 0), .nl] := by kernel_rfl
theorem tyW101 : tyZeroT Tryz.prog 101 = some [.s ⟨#[]⟩, .i .i64 0, .sl .any []] := by kernel_rfl
theorem tyO101_0 : tyOff Tryz.prog 101 0 = some 0 := by kernel_rfl
theorem tyO101_1 : tyOff Tryz.prog 101 1 = some 1 := by kernel_rfl
theorem tyF101 : tyFlds Tryz.prog 101 = some [(0, 1), (1, 2)] := by kernel_rfl
theorem tyS102 : tySize Tryz.prog 102 = 1 := by kernel_rfl
theorem tyA102 : tyAgg Tryz.prog 102 = some false := by kernel_rfl
theorem tyS103 : tySize Tryz.prog 103 = 3 := by kernel_rfl
theorem tyA103 : tyAgg Tryz.prog 103 = some true := by kernel_rfl
theorem tyG103 : tyTag Tryz.prog 103 = none := by kernel_rfl
theorem tyY103 : tyBytes Tryz.prog 103 = 32 := by kernel_rfl
theorem tyZ103 : tyZero Tryz.prog 103 = some [.d (.i .i64 0), .d (.i .i64 0), .d (.s ⟨#[]⟩)] := by kernel_rfl
theorem tyW103 : tyZeroT Tryz.prog 103 = some [.i .i64 0, .i .i64 0, .s ⟨#[]⟩] := by kernel_rfl
theorem tyO103_0 : tyOff Tryz.prog 103 0 = some 0 := by kernel_rfl
theorem tyO103_1 : tyOff Tryz.prog 103 1 = some 1 := by kernel_rfl
theorem tyO103_2 : tyOff Tryz.prog 103 2 = some 2 := by kernel_rfl
theorem tyF103 : tyFlds Tryz.prog 103 = some [(0, 1), (1, 1), (2, 1)] := by kernel_rfl
theorem tyS104 : tySize Tryz.prog 104 = 3 := by kernel_rfl
theorem tyA104 : tyAgg Tryz.prog 104 = some true := by kernel_rfl
theorem tyL104 : elAnn Tryz.prog 104 = .any := by kernel_rfl
theorem tyG104 : tyTag Tryz.prog 104 = none := by kernel_rfl
theorem tyY104 : tyBytes Tryz.prog 104 = 32 := by kernel_rfl
theorem tyZ104 : tyZero Tryz.prog 104 = some [.d (.i .i64 0), .d (.i .i64 0), .d (.s ⟨#[]⟩)] := by kernel_rfl
theorem tyW104 : tyZeroT Tryz.prog 104 = some [.i .i64 0, .i .i64 0, .s ⟨#[]⟩] := by kernel_rfl
theorem tyO104_0 : tyOff Tryz.prog 104 0 = some 0 := by kernel_rfl
theorem tyO104_1 : tyOff Tryz.prog 104 1 = some 1 := by kernel_rfl
theorem tyO104_2 : tyOff Tryz.prog 104 2 = some 2 := by kernel_rfl
theorem tyF104 : tyFlds Tryz.prog 104 = some [(0, 1), (1, 1), (2, 1)] := by kernel_rfl
theorem tyP104 : tyPlain Tryz.prog 104 = some [.i, .i, .s] := by kernel_rfl
theorem tyS105 : tySize Tryz.prog 105 = 1 := by kernel_rfl
theorem tyA105 : tyAgg Tryz.prog 105 = some false := by kernel_rfl
theorem tyS106 : tySize Tryz.prog 106 = 1 := by kernel_rfl
theorem tyA106 : tyAgg Tryz.prog 106 = some false := by kernel_rfl
theorem tyE106 : tyElem Tryz.prog 106 = some 104 := by kernel_rfl
theorem tyI106 : tyInt Tryz.prog 106 = none := by kernel_rfl
theorem tyT106 : tyStr Tryz.prog 106 = false := by kernel_rfl
theorem tyL106 : elAnn Tryz.prog 106 = .any := by kernel_rfl
theorem tyG106 : tyTag Tryz.prog 106 = none := by kernel_rfl
theorem tyY106 : tyBytes Tryz.prog 106 = 24 := by kernel_rfl
theorem tyZ106 : tyZero Tryz.prog 106 = some [.nl] := by kernel_rfl
theorem tyW106 : tyZeroT Tryz.prog 106 = some [.sl .any []] := by kernel_rfl
theorem tyS107 : tySize Tryz.prog 107 = 2 := by kernel_rfl
theorem tyA107 : tyAgg Tryz.prog 107 = some true := by kernel_rfl
theorem tyG107 : tyTag Tryz.prog 107 = none := by kernel_rfl
theorem tyY107 : tyBytes Tryz.prog 107 = 32 := by kernel_rfl
theorem tyZ107 : tyZero Tryz.prog 107 = some [.nl, .d (.i .i64 0)] := by kernel_rfl
theorem tyW107 : tyZeroT Tryz.prog 107 = some [.sl .any [], .i .i64 0] := by kernel_rfl
theorem tyO107_0 : tyOff Tryz.prog 107 0 = some 0 := by kernel_rfl
theorem tyO107_1 : tyOff Tryz.prog 107 1 = some 1 := by kernel_rfl
theorem tyF107 : tyFlds Tryz.prog 107 = some [(0, 1), (1, 1)] := by kernel_rfl
theorem tyS108 : tySize Tryz.prog 108 = 2 := by kernel_rfl
theorem tyA108 : tyAgg Tryz.prog 108 = some true := by kernel_rfl
theorem tyL108 : elAnn Tryz.prog 108 = .any := by kernel_rfl
theorem tyG108 : tyTag Tryz.prog 108 = none := by kernel_rfl
theorem tyY108 : tyBytes Tryz.prog 108 = 32 := by kernel_rfl
theorem tyZ108 : tyZero Tryz.prog 108 = some [.nl, .d (.i .i64 0)] := by kernel_rfl
theorem tyW108 : tyZeroT Tryz.prog 108 = some [.sl .any [], .i .i64 0] := by kernel_rfl
theorem tyO108_0 : tyOff Tryz.prog 108 0 = some 0 := by kernel_rfl
theorem tyO108_1 : tyOff Tryz.prog 108 1 = some 1 := by kernel_rfl
theorem tyF108 : tyFlds Tryz.prog 108 = some [(0, 1), (1, 1)] := by kernel_rfl
theorem tyS109 : tySize Tryz.prog 109 = 1 := by kernel_rfl
theorem tyA109 : tyAgg Tryz.prog 109 = some false := by kernel_rfl
theorem tyS110 : tySize Tryz.prog 110 = 1 := by kernel_rfl
theorem tyA110 : tyAgg Tryz.prog 110 = some false := by kernel_rfl
theorem tyG110 : tyTag Tryz.prog 110 = none := by kernel_rfl
theorem tyQ110 : tyPtr Tryz.prog 110 = some 112 := by kernel_rfl
theorem tyI110 : tyInt Tryz.prog 110 = none := by kernel_rfl
theorem tyT110 : tyStr Tryz.prog 110 = false := by kernel_rfl
theorem tyU110 : tyUns Tryz.prog 110 = false := by kernel_rfl
theorem tyZ110 : tyZero Tryz.prog 110 = some [.d (.raw (.pointer none))] := by kernel_rfl
theorem tyS111 : tySize Tryz.prog 111 = 2 := by kernel_rfl
theorem tyA111 : tyAgg Tryz.prog 111 = some true := by kernel_rfl
theorem tyG111 : tyTag Tryz.prog 111 = none := by kernel_rfl
theorem tyY111 : tyBytes Tryz.prog 111 = 32 := by kernel_rfl
theorem tyZ111 : tyZero Tryz.prog 111 = some [.d (.raw (.pointer none)), .nl] := by kernel_rfl
theorem tyO111_0 : tyOff Tryz.prog 111 0 = some 0 := by kernel_rfl
theorem tyO111_1 : tyOff Tryz.prog 111 1 = some 1 := by kernel_rfl
theorem tyF111 : tyFlds Tryz.prog 111 = some [(0, 1), (1, 1)] := by kernel_rfl
theorem tyS112 : tySize Tryz.prog 112 = 2 := by kernel_rfl
theorem tyA112 : tyAgg Tryz.prog 112 = some true := by kernel_rfl
theorem tyG112 : tyTag Tryz.prog 112 = some 112 := by kernel_rfl
theorem tyV112 : liesAt Tryz.prog Tryz.prog.depth 112 (2 / Tryz.prog.cellsOf 112) 0 112 1 = true := by kernel_rfl
theorem tyY112 : tyBytes Tryz.prog 112 = 32 := by kernel_rfl
theorem tyZ112 : tyZero Tryz.prog 112 = some [.d (.raw (.pointer none)), .nl] := by kernel_rfl
theorem tyO112_0 : tyOff Tryz.prog 112 0 = some 0 := by kernel_rfl
theorem tyO112_1 : tyOff Tryz.prog 112 1 = some 1 := by kernel_rfl
theorem tyF112 : tyFlds Tryz.prog 112 = some [(0, 1), (1, 1)] := by kernel_rfl
theorem tyS116 : tySize Tryz.prog 116 = 1 := by kernel_rfl
theorem tyA116 : tyAgg Tryz.prog 116 = some false := by kernel_rfl
theorem tyS117 : tySize Tryz.prog 117 = 1 := by kernel_rfl
theorem tyA117 : tyAgg Tryz.prog 117 = some false := by kernel_rfl
theorem tyS118 : tySize Tryz.prog 118 = 1 := by kernel_rfl
theorem tyA118 : tyAgg Tryz.prog 118 = some false := by kernel_rfl
theorem tyS120 : tySize Tryz.prog 120 = 1 := by kernel_rfl
theorem tyA120 : tyAgg Tryz.prog 120 = some false := by kernel_rfl
theorem tyS121 : tySize Tryz.prog 121 = 1 := by kernel_rfl
theorem tyA121 : tyAgg Tryz.prog 121 = some false := by kernel_rfl
theorem tyS122 : tySize Tryz.prog 122 = 1 := by kernel_rfl
theorem tyA122 : tyAgg Tryz.prog 122 = some false := by kernel_rfl
theorem tyS123 : tySize Tryz.prog 123 = 1 := by kernel_rfl
theorem tyA123 : tyAgg Tryz.prog 123 = some false := by kernel_rfl
theorem tyS124 : tySize Tryz.prog 124 = 3 := by kernel_rfl
theorem tyA124 : tyAgg Tryz.prog 124 = some true := by kernel_rfl
theorem tyG124 : tyTag Tryz.prog 124 = none := by kernel_rfl
theorem tyY124 : tyBytes Tryz.prog 124 = 40 := by kernel_rfl
theorem tyZ124 : tyZero Tryz.prog 124 = some [.nl, .d (.i .i64 0), .d (.i .i64 0)] := by kernel_rfl
theorem tyW124 : tyZeroT Tryz.prog 124 = some [.sl .any [], .i .i64 0, .i .i64 0] := by kernel_rfl
theorem tyO124_0 : tyOff Tryz.prog 124 0 = some 0 := by kernel_rfl
theorem tyO124_1 : tyOff Tryz.prog 124 1 = some 1 := by kernel_rfl
theorem tyO124_2 : tyOff Tryz.prog 124 2 = some 2 := by kernel_rfl
theorem tyF124 : tyFlds Tryz.prog 124 = some [(0, 1), (1, 1), (2, 1)] := by kernel_rfl
theorem tyS125 : tySize Tryz.prog 125 = 3 := by kernel_rfl
theorem tyA125 : tyAgg Tryz.prog 125 = some true := by kernel_rfl
theorem tyG125 : tyTag Tryz.prog 125 = none := by kernel_rfl
theorem tyY125 : tyBytes Tryz.prog 125 = 40 := by kernel_rfl
theorem tyZ125 : tyZero Tryz.prog 125 = some [.nl, .d (.i .i64 0), .d (.i .i64 0)] := by kernel_rfl
theorem tyW125 : tyZeroT Tryz.prog 125 = some [.sl .any [], .i .i64 0, .i .i64 0] := by kernel_rfl
theorem tyO125_0 : tyOff Tryz.prog 125 0 = some 0 := by kernel_rfl
theorem tyO125_1 : tyOff Tryz.prog 125 1 = some 1 := by kernel_rfl
theorem tyO125_2 : tyOff Tryz.prog 125 2 = some 2 := by kernel_rfl
theorem tyF125 : tyFlds Tryz.prog 125 = some [(0, 1), (1, 1), (2, 1)] := by kernel_rfl
theorem tyS126 : tySize Tryz.prog 126 = 1 := by kernel_rfl
theorem tyA126 : tyAgg Tryz.prog 126 = some false := by kernel_rfl
theorem tyS127 : tySize Tryz.prog 127 = 1 := by kernel_rfl
theorem tyA127 : tyAgg Tryz.prog 127 = some false := by kernel_rfl
theorem tyS128 : tySize Tryz.prog 128 = 1 := by kernel_rfl
theorem tyA128 : tyAgg Tryz.prog 128 = some false := by kernel_rfl
theorem tyE128 : tyElem Tryz.prog 128 = some 22 := by kernel_rfl
theorem tyI128 : tyInt Tryz.prog 128 = none := by kernel_rfl
theorem tyT128 : tyStr Tryz.prog 128 = false := by kernel_rfl
theorem tyG128 : tyTag Tryz.prog 128 = none := by kernel_rfl
theorem tyY128 : tyBytes Tryz.prog 128 = 24 := by kernel_rfl
theorem tyZ128 : tyZero Tryz.prog 128 = some [.nl] := by kernel_rfl
theorem tyW128 : tyZeroT Tryz.prog 128 = some [.sl .any []] := by kernel_rfl
theorem tyS129 : tySize Tryz.prog 129 = 1 := by kernel_rfl
theorem tyA129 : tyAgg Tryz.prog 129 = some false := by kernel_rfl
theorem tyS130 : tySize Tryz.prog 130 = 1 := by kernel_rfl
theorem tyA130 : tyAgg Tryz.prog 130 = some false := by kernel_rfl
theorem tyS131 : tySize Tryz.prog 131 = 1 := by kernel_rfl
theorem tyA131 : tyAgg Tryz.prog 131 = some false := by kernel_rfl
theorem tyS132 : tySize Tryz.prog 132 = 1 := by kernel_rfl
theorem tyA132 : tyAgg Tryz.prog 132 = some false := by kernel_rfl
theorem tyS133 : tySize Tryz.prog 133 = 1 := by kernel_rfl
theorem tyA133 : tyAgg Tryz.prog 133 = some false := by kernel_rfl
theorem tyS134 : tySize Tryz.prog 134 = 1 := by kernel_rfl
theorem tyA134 : tyAgg Tryz.prog 134 = some false := by kernel_rfl
theorem tyS135 : tySize Tryz.prog 135 = 1 := by kernel_rfl
theorem tyA135 : tyAgg Tryz.prog 135 = some false := by kernel_rfl
theorem tyS136 : tySize Tryz.prog 136 = 1 := by kernel_rfl
theorem tyA136 : tyAgg Tryz.prog 136 = some false := by kernel_rfl
theorem tyS137 : tySize Tryz.prog 137 = 1 := by kernel_rfl
theorem tyA137 : tyAgg Tryz.prog 137 = some false := by kernel_rfl
theorem tyS138 : tySize Tryz.prog 138 = 1 := by kernel_rfl
theorem tyA138 : tyAgg Tryz.prog 138 = some false := by kernel_rfl
theorem tyS139 : tySize Tryz.prog 139 = 1 := by kernel_rfl
theorem tyA139 : tyAgg Tryz.prog 139 = some false := by kernel_rfl
theorem tyS140 : tySize Tryz.prog 140 = 1 := by kernel_rfl
theorem tyA140 : tyAgg Tryz.prog 140 = some false := by kernel_rfl
theorem tyS141 : tySize Tryz.prog 141 = 1 := by kernel_rfl
theorem tyA141 : tyAgg Tryz.prog 141 = some false := by kernel_rfl
theorem tyS142 : tySize Tryz.prog 142 = 1 := by kernel_rfl
theorem tyA142 : tyAgg Tryz.prog 142 = some false := by kernel_rfl
theorem tyS143 : tySize Tryz.prog 143 = 1 := by kernel_rfl
theorem tyA143 : tyAgg Tryz.prog 143 = some false := by kernel_rfl
theorem tyG143 : tyTag Tryz.prog 143 = none := by kernel_rfl
theorem tyI143 : tyInt Tryz.prog 143 = some .u64 := by kernel_rfl
theorem tyY143 : tyBytes Tryz.prog 143 = 8 := by kernel_rfl
theorem tyZ143 : tyZero Tryz.prog 143 = some [.d (.i .u64 0)] := by kernel_rfl
theorem tyW143 : tyZeroT Tryz.prog 143 = some [.i .u64 0] := by kernel_rfl
theorem tyS144 : tySize Tryz.prog 144 = 1 := by kernel_rfl
theorem tyA144 : tyAgg Tryz.prog 144 = some false := by kernel_rfl
theorem tyS145 : tySize Tryz.prog 145 = 1 := by kernel_rfl
theorem tyA145 : tyAgg Tryz.prog 145 = some false := by kernel_rfl
theorem tyG145 : tyTag Tryz.prog 145 = none := by kernel_rfl
theorem tyQ145 : tyPtr Tryz.prog 145 = some 5 := by kernel_rfl
theorem tyI145 : tyInt Tryz.prog 145 = none := by kernel_rfl
theorem tyT145 : tyStr Tryz.prog 145 = false := by kernel_rfl
theorem tyU145 : tyUns Tryz.prog 145 = false := by kernel_rfl
theorem tyZ145 : tyZero Tryz.prog 145 = some [.d (.raw (.pointer none))] := by kernel_rfl
theorem tyS146 : tySize Tryz.prog 146 = 1 := by kernel_rfl
theorem tyA146 : tyAgg Tryz.prog 146 = some false := by kernel_rfl
theorem tyG146 : tyTag Tryz.prog 146 = none := by kernel_rfl
theorem tyI146 : tyInt Tryz.prog 146 = some .u64 := by kernel_rfl
theorem tyY146 : tyBytes Tryz.prog 146 = 8 := by kernel_rfl
theorem tyZ146 : tyZero Tryz.prog 146 = some [.d (.i .u64 0)] := by kernel_rfl
theorem tyW146 : tyZeroT Tryz.prog 146 = some [.i .u64 0] := by kernel_rfl
theorem tyS147 : tySize Tryz.prog 147 = 1 := by kernel_rfl
theorem tyA147 : tyAgg Tryz.prog 147 = some false := by kernel_rfl
theorem tyS148 : tySize Tryz.prog 148 = 1 := by kernel_rfl
theorem tyA148 : tyAgg Tryz.prog 148 = some false := by kernel_rfl
theorem tyS149 : tySize Tryz.prog 149 = 1 := by kernel_rfl
theorem tyA149 : tyAgg Tryz.prog 149 = some false := by kernel_rfl
theorem tyS150 : tySize Tryz.prog 150 = 1 := by kernel_rfl
theorem tyA150 : tyAgg Tryz.prog 150 = some false := by kernel_rfl
theorem tyS151 : tySize Tryz.prog 151 = 1 := by kernel_rfl
theorem tyA151 : tyAgg Tryz.prog 151 = some false := by kernel_rfl
theorem tyS152 : tySize Tryz.prog 152 = 1 := by kernel_rfl
theorem tyA152 : tyAgg Tryz.prog 152 = some false := by kernel_rfl
theorem tyS153 : tySize Tryz.prog 153 = 1 := by kernel_rfl
theorem tyA153 : tyAgg Tryz.prog 153 = some false := by kernel_rfl
theorem tyS154 : tySize Tryz.prog 154 = 1 := by kernel_rfl
theorem tyA154 : tyAgg Tryz.prog 154 = some false := by kernel_rfl
theorem tyS155 : tySize Tryz.prog 155 = 1 := by kernel_rfl
theorem tyA155 : tyAgg Tryz.prog 155 = some false := by kernel_rfl
theorem tyS156 : tySize Tryz.prog 156 = 1 := by kernel_rfl
theorem tyA156 : tyAgg Tryz.prog 156 = some false := by kernel_rfl
theorem tyS157 : tySize Tryz.prog 157 = 1 := by kernel_rfl
theorem tyA157 : tyAgg Tryz.prog 157 = some false := by kernel_rfl
theorem tyS158 : tySize Tryz.prog 158 = 1 := by kernel_rfl
theorem tyA158 : tyAgg Tryz.prog 158 = some false := by kernel_rfl
theorem tyS159 : tySize Tryz.prog 159 = 1 := by kernel_rfl
theorem tyA159 : tyAgg Tryz.prog 159 = some false := by kernel_rfl
theorem tyS160 : tySize Tryz.prog 160 = 1 := by kernel_rfl
theorem tyA160 : tyAgg Tryz.prog 160 = some false := by kernel_rfl
theorem tyS161 : tySize Tryz.prog 161 = 1 := by kernel_rfl
theorem tyA161 : tyAgg Tryz.prog 161 = some false := by kernel_rfl
theorem tyS162 : tySize Tryz.prog 162 = 1 := by kernel_rfl
theorem tyA162 : tyAgg Tryz.prog 162 = some false := by kernel_rfl
theorem tyU162 : tyUns Tryz.prog 162 = true := by kernel_rfl
theorem tyI162 : tyInt Tryz.prog 162 = none := by kernel_rfl
theorem tyT162 : tyStr Tryz.prog 162 = false := by kernel_rfl
theorem tyQ162 : tyPtr Tryz.prog 162 = none := by kernel_rfl
theorem tyS163 : tySize Tryz.prog 163 = 1 := by kernel_rfl
theorem tyA163 : tyAgg Tryz.prog 163 = some false := by kernel_rfl
theorem tyS164 : tySize Tryz.prog 164 = 1 := by kernel_rfl
theorem tyA164 : tyAgg Tryz.prog 164 = some false := by kernel_rfl
theorem tyS165 : tySize Tryz.prog 165 = 1 := by kernel_rfl
theorem tyA165 : tyAgg Tryz.prog 165 = some false := by kernel_rfl
theorem tyE165 : tyElem Tryz.prog 165 = some 106 := by kernel_rfl
theorem tyI165 : tyInt Tryz.prog 165 = none := by kernel_rfl
theorem tyT165 : tyStr Tryz.prog 165 = false := by kernel_rfl
theorem tyG165 : tyTag Tryz.prog 165 = none := by kernel_rfl
theorem tyY165 : tyBytes Tryz.prog 165 = 24 := by kernel_rfl
theorem tyZ165 : tyZero Tryz.prog 165 = some [.nl] := by kernel_rfl
theorem tyW165 : tyZeroT Tryz.prog 165 = some [.sl .any []] := by kernel_rfl
theorem tyS166 : tySize Tryz.prog 166 = 1 := by kernel_rfl
theorem tyA166 : tyAgg Tryz.prog 166 = some false := by kernel_rfl
theorem tyS167 : tySize Tryz.prog 167 = 1 := by kernel_rfl
theorem tyA167 : tyAgg Tryz.prog 167 = some false := by kernel_rfl
theorem tyS168 : tySize Tryz.prog 168 = 1 := by kernel_rfl
theorem tyA168 : tyAgg Tryz.prog 168 = some false := by kernel_rfl
theorem tyS169 : tySize Tryz.prog 169 = 1 := by kernel_rfl
theorem tyA169 : tyAgg Tryz.prog 169 = some false := by kernel_rfl
theorem tyE169 : tyElem Tryz.prog 169 = some 3 := by kernel_rfl
theorem tyI169 : tyInt Tryz.prog 169 = none := by kernel_rfl
theorem tyT169 : tyStr Tryz.prog 169 = false := by kernel_rfl
theorem tyG169 : tyTag Tryz.prog 169 = none := by kernel_rfl
theorem tyY169 : tyBytes Tryz.prog 169 = 24 := by kernel_rfl
theorem tyZ169 : tyZero Tryz.prog 169 = some [.nl] := by kernel_rfl
theorem tyW169 : tyZeroT Tryz.prog 169 = some [.sl .any []] := by kernel_rfl
theorem tyS170 : tySize Tryz.prog 170 = 1 := by kernel_rfl
theorem tyA170 : tyAgg Tryz.prog 170 = some false := by kernel_rfl
theorem tyS171 : tySize Tryz.prog 171 = 1 := by kernel_rfl
theorem tyA171 : tyAgg Tryz.prog 171 = some false := by kernel_rfl
theorem tyS172 : tySize Tryz.prog 172 = 1 := by kernel_rfl
theorem tyA172 : tyAgg Tryz.prog 172 = some false := by kernel_rfl
theorem tyS173 : tySize Tryz.prog 173 = 1 := by kernel_rfl
theorem tyA173 : tyAgg Tryz.prog 173 = some false := by kernel_rfl
theorem tyS174 : tySize Tryz.prog 174 = 1 := by kernel_rfl
theorem tyA174 : tyAgg Tryz.prog 174 = some false := by kernel_rfl
theorem tyS175 : tySize Tryz.prog 175 = 1 := by kernel_rfl
theorem tyA175 : tyAgg Tryz.prog 175 = some false := by kernel_rfl
theorem tyS176 : tySize Tryz.prog 176 = 1 := by kernel_rfl
theorem tyA176 : tyAgg Tryz.prog 176 = some false := by kernel_rfl
theorem tyS177 : tySize Tryz.prog 177 = 1 := by kernel_rfl
theorem tyA177 : tyAgg Tryz.prog 177 = some false := by kernel_rfl
theorem tyS178 : tySize Tryz.prog 178 = 1 := by kernel_rfl
theorem tyA178 : tyAgg Tryz.prog 178 = some false := by kernel_rfl
theorem tyE178 : tyElem Tryz.prog 178 = some 207 := by kernel_rfl
theorem tyI178 : tyInt Tryz.prog 178 = none := by kernel_rfl
theorem tyT178 : tyStr Tryz.prog 178 = false := by kernel_rfl
theorem tyG178 : tyTag Tryz.prog 178 = none := by kernel_rfl
theorem tyY178 : tyBytes Tryz.prog 178 = 24 := by kernel_rfl
theorem tyZ178 : tyZero Tryz.prog 178 = some [.nl] := by kernel_rfl
theorem tyW178 : tyZeroT Tryz.prog 178 = some [.sl .any []] := by kernel_rfl
theorem tyS179 : tySize Tryz.prog 179 = 2 := by kernel_rfl
theorem tyA179 : tyAgg Tryz.prog 179 = some true := by kernel_rfl
theorem tyG179 : tyTag Tryz.prog 179 = none := by kernel_rfl
theorem tyY179 : tyBytes Tryz.prog 179 = 32 := by kernel_rfl
theorem tyZ179 : tyZero Tryz.prog 179 = some [.nl, .d (.i .i64 0)] := by kernel_rfl
theorem tyW179 : tyZeroT Tryz.prog 179 = some [.sl .any [], .i .i64 0] := by kernel_rfl
theorem tyO179_0 : tyOff Tryz.prog 179 0 = some 0 := by kernel_rfl
theorem tyO179_1 : tyOff Tryz.prog 179 1 = some 1 := by kernel_rfl
theorem tyF179 : tyFlds Tryz.prog 179 = some [(0, 1), (1, 1)] := by kernel_rfl
theorem tyS180 : tySize Tryz.prog 180 = 2 := by kernel_rfl
theorem tyA180 : tyAgg Tryz.prog 180 = some true := by kernel_rfl
theorem tyL180 : elAnn Tryz.prog 180 = .any := by kernel_rfl
theorem tyG180 : tyTag Tryz.prog 180 = none := by kernel_rfl
theorem tyY180 : tyBytes Tryz.prog 180 = 32 := by kernel_rfl
theorem tyZ180 : tyZero Tryz.prog 180 = some [.nl, .d (.i .i64 0)] := by kernel_rfl
theorem tyW180 : tyZeroT Tryz.prog 180 = some [.sl .any [], .i .i64 0] := by kernel_rfl
theorem tyO180_0 : tyOff Tryz.prog 180 0 = some 0 := by kernel_rfl
theorem tyO180_1 : tyOff Tryz.prog 180 1 = some 1 := by kernel_rfl
theorem tyF180 : tyFlds Tryz.prog 180 = some [(0, 1), (1, 1)] := by kernel_rfl
theorem tyS181 : tySize Tryz.prog 181 = 1 := by kernel_rfl
theorem tyA181 : tyAgg Tryz.prog 181 = some false := by kernel_rfl
theorem tyS182 : tySize Tryz.prog 182 = 1 := by kernel_rfl
theorem tyA182 : tyAgg Tryz.prog 182 = some false := by kernel_rfl
theorem tyS183 : tySize Tryz.prog 183 = 1 := by kernel_rfl
theorem tyA183 : tyAgg Tryz.prog 183 = some false := by kernel_rfl
theorem tyS184 : tySize Tryz.prog 184 = 1 := by kernel_rfl
theorem tyA184 : tyAgg Tryz.prog 184 = some false := by kernel_rfl
theorem tyS185 : tySize Tryz.prog 185 = 1 := by kernel_rfl
theorem tyA185 : tyAgg Tryz.prog 185 = some false := by kernel_rfl
theorem tyG185 : tyTag Tryz.prog 185 = none := by kernel_rfl
theorem tyI185 : tyInt Tryz.prog 185 = some .i64 := by kernel_rfl
theorem tyY185 : tyBytes Tryz.prog 185 = 8 := by kernel_rfl
theorem tyZ185 : tyZero Tryz.prog 185 = some [.d (.i .i64 0)] := by kernel_rfl
theorem tyW185 : tyZeroT Tryz.prog 185 = some [.i .i64 0] := by kernel_rfl
theorem tyS187 : tySize Tryz.prog 187 = 1 := by kernel_rfl
theorem tyA187 : tyAgg Tryz.prog 187 = some false := by kernel_rfl
theorem tyS188 : tySize Tryz.prog 188 = 1 := by kernel_rfl
theorem tyA188 : tyAgg Tryz.prog 188 = some false := by kernel_rfl
theorem tyS189 : tySize Tryz.prog 189 = 1 := by kernel_rfl
theorem tyA189 : tyAgg Tryz.prog 189 = some false := by kernel_rfl
theorem tyS190 : tySize Tryz.prog 190 = 1 := by kernel_rfl
theorem tyA190 : tyAgg Tryz.prog 190 = some false := by kernel_rfl
theorem tyS192 : tySize Tryz.prog 192 = 1 := by kernel_rfl
theorem tyA192 : tyAgg Tryz.prog 192 = some false := by kernel_rfl
theorem tyS193 : tySize Tryz.prog 193 = 1 := by kernel_rfl
theorem tyA193 : tyAgg Tryz.prog 193 = some false := by kernel_rfl
theorem tyS194 : tySize Tryz.prog 194 = 1 := by kernel_rfl
theorem tyA194 : tyAgg Tryz.prog 194 = some false := by kernel_rfl
theorem tyS195 : tySize Tryz.prog 195 = 1 := by kernel_rfl
theorem tyA195 : tyAgg Tryz.prog 195 = some false := by kernel_rfl
theorem tyS196 : tySize Tryz.prog 196 = 1 := by kernel_rfl
theorem tyA196 : tyAgg Tryz.prog 196 = some false := by kernel_rfl
theorem tyS197 : tySize Tryz.prog 197 = 1 := by kernel_rfl
theorem tyA197 : tyAgg Tryz.prog 197 = some false := by kernel_rfl
theorem tyS198 : tySize Tryz.prog 198 = 1 := by kernel_rfl
theorem tyA198 : tyAgg Tryz.prog 198 = some false := by kernel_rfl
theorem tyS199 : tySize Tryz.prog 199 = 1 := by kernel_rfl
theorem tyA199 : tyAgg Tryz.prog 199 = some false := by kernel_rfl
theorem tyS200 : tySize Tryz.prog 200 = 1 := by kernel_rfl
theorem tyA200 : tyAgg Tryz.prog 200 = some false := by kernel_rfl
theorem tyG200 : tyTag Tryz.prog 200 = none := by kernel_rfl
theorem tyI200 : tyInt Tryz.prog 200 = some .u64 := by kernel_rfl
theorem tyY200 : tyBytes Tryz.prog 200 = 8 := by kernel_rfl
theorem tyZ200 : tyZero Tryz.prog 200 = some [.d (.i .u64 0)] := by kernel_rfl
theorem tyW200 : tyZeroT Tryz.prog 200 = some [.i .u64 0] := by kernel_rfl
theorem tyS201 : tySize Tryz.prog 201 = 1 := by kernel_rfl
theorem tyA201 : tyAgg Tryz.prog 201 = some false := by kernel_rfl
theorem tyS202 : tySize Tryz.prog 202 = 1 := by kernel_rfl
theorem tyA202 : tyAgg Tryz.prog 202 = some false := by kernel_rfl
theorem tyS203 : tySize Tryz.prog 203 = 1 := by kernel_rfl
theorem tyA203 : tyAgg Tryz.prog 203 = some false := by kernel_rfl
theorem tyS204 : tySize Tryz.prog 204 = 1 := by kernel_rfl
theorem tyA204 : tyAgg Tryz.prog 204 = some false := by kernel_rfl
theorem tyG204 : tyTag Tryz.prog 204 = none := by kernel_rfl
theorem tyQ204 : tyPtr Tryz.prog 204 = some 3 := by kernel_rfl
theorem tyI204 : tyInt Tryz.prog 204 = none := by kernel_rfl
theorem tyT204 : tyStr Tryz.prog 204 = false := by kernel_rfl
theorem tyU204 : tyUns Tryz.prog 204 = false := by kernel_rfl
theorem tyZ204 : tyZero Tryz.prog 204 = some [.d (.raw (.pointer none))] := by kernel_rfl
theorem tyS205 : tySize Tryz.prog 205 = 1 := by kernel_rfl
theorem tyA205 : tyAgg Tryz.prog 205 = some false := by kernel_rfl
theorem tyS206 : tySize Tryz.prog 206 = 1 := by kernel_rfl
theorem tyA206 : tyAgg Tryz.prog 206 = some false := by kernel_rfl
theorem tyS207 : tySize Tryz.prog 207 = 3 := by kernel_rfl
theorem tyA207 : tyAgg Tryz.prog 207 = some true := by kernel_rfl
theorem tyL207 : elAnn Tryz.prog 207 = .any := by kernel_rfl
theorem tyG207 : tyTag Tryz.prog 207 = none := by kernel_rfl
theorem tyY207 : tyBytes Tryz.prog 207 = 32 := by kernel_rfl
theorem tyZ207 : tyZero Tryz.prog 207 = some [.d (.i .i64 0), .d (.i .i64 0), .d (.s ⟨#[]⟩)] := by kernel_rfl
theorem tyW207 : tyZeroT Tryz.prog 207 = some [.i .i64 0, .i .i64 0, .s ⟨#[]⟩] := by kernel_rfl
theorem tyO207_0 : tyOff Tryz.prog 207 0 = some 0 := by kernel_rfl
theorem tyO207_1 : tyOff Tryz.prog 207 1 = some 1 := by kernel_rfl
theorem tyO207_2 : tyOff Tryz.prog 207 2 = some 2 := by kernel_rfl
theorem tyF207 : tyFlds Tryz.prog 207 = some [(0, 1), (1, 1), (2, 1)] := by kernel_rfl
theorem tyP207 : tyPlain Tryz.prog 207 = some [.i, .i, .s] := by kernel_rfl
theorem tyS208 : tySize Tryz.prog 208 = 1 := by kernel_rfl
theorem tyA208 : tyAgg Tryz.prog 208 = some false := by kernel_rfl
theorem tyS209 : tySize Tryz.prog 209 = 1 := by kernel_rfl
theorem tyA209 : tyAgg Tryz.prog 209 = some false := by kernel_rfl
theorem tyS210 : tySize Tryz.prog 210 = 1 := by kernel_rfl
theorem tyA210 : tyAgg Tryz.prog 210 = some false := by kernel_rfl
theorem tyG210 : tyTag Tryz.prog 210 = none := by kernel_rfl
theorem tyQ210 : tyPtr Tryz.prog 210 = some 200 := by kernel_rfl
theorem tyI210 : tyInt Tryz.prog 210 = none := by kernel_rfl
theorem tyT210 : tyStr Tryz.prog 210 = false := by kernel_rfl
theorem tyU210 : tyUns Tryz.prog 210 = false := by kernel_rfl
theorem tyZ210 : tyZero Tryz.prog 210 = some [.d (.raw (.pointer none))] := by kernel_rfl
theorem tyS211 : tySize Tryz.prog 211 = 1 := by kernel_rfl
theorem tyA211 : tyAgg Tryz.prog 211 = some false := by kernel_rfl
theorem tyS212 : tySize Tryz.prog 212 = 4 := by kernel_rfl
theorem tyA212 : tyAgg Tryz.prog 212 = some true := by kernel_rfl
theorem tyG212 : tyTag Tryz.prog 212 = none := by kernel_rfl
theorem tyY212 : tyBytes Tryz.prog 212 = 40 := by kernel_rfl
theorem tyZ212 : tyZero Tryz.prog 212 = some [.d (.raw (.pointer none)), .d (.raw (.pointer none)), .d (.raw (.pointer none)), .d (.s ⟨#[]⟩)] := by kernel_rfl
theorem tyO212_0 : tyOff Tryz.prog 212 0 = some 0 := by kernel_rfl
theorem tyO212_1 : tyOff Tryz.prog 212 1 = some 1 := by kernel_rfl
theorem tyO212_2 : tyOff Tryz.prog 212 2 = some 2 := by kernel_rfl
theorem tyO212_3 : tyOff Tryz.prog 212 3 = some 3 := by kernel_rfl
theorem tyF212 : tyFlds Tryz.prog 212 = some [(0, 1), (1, 1), (2, 1), (3, 1)] := by kernel_rfl
theorem tyS213 : tySize Tryz.prog 213 = 4 := by kernel_rfl
theorem tyA213 : tyAgg Tryz.prog 213 = some true := by kernel_rfl
theorem tyG213 : tyTag Tryz.prog 213 = none := by kernel_rfl
theorem tyY213 : tyBytes Tryz.prog 213 = 40 := by kernel_rfl
theorem tyZ213 : tyZero Tryz.prog 213 = some [.d (.raw (.pointer none)), .d (.raw (.pointer none)), .d (.raw (.pointer none)), .d (.s ⟨#[]⟩)] := by kernel_rfl
theorem tyO213_0 : tyOff Tryz.prog 213 0 = some 0 := by kernel_rfl
theorem tyO213_1 : tyOff Tryz.prog 213 1 = some 1 := by kernel_rfl
theorem tyO213_2 : tyOff Tryz.prog 213 2 = some 2 := by kernel_rfl
theorem tyO213_3 : tyOff Tryz.prog 213 3 = some 3 := by kernel_rfl
theorem tyF213 : tyFlds Tryz.prog 213 = some [(0, 1), (1, 1), (2, 1), (3, 1)] := by kernel_rfl
theorem tyS214 : tySize Tryz.prog 214 = 0 := by kernel_rfl
theorem tyA214 : tyAgg Tryz.prog 214 = some true := by kernel_rfl
theorem tyG214 : tyTag Tryz.prog 214 = none := by kernel_rfl
theorem tyZ214 : tyZero Tryz.prog 214 = some [] := by kernel_rfl
theorem tyW214 : tyZeroT Tryz.prog 214 = some [] := by kernel_rfl
theorem tyS215 : tySize Tryz.prog 215 = 0 := by kernel_rfl
theorem tyA215 : tyAgg Tryz.prog 215 = some true := by kernel_rfl
theorem tyG215 : tyTag Tryz.prog 215 = none := by kernel_rfl
theorem tyY215 : tyBytes Tryz.prog 215 = 0 := by kernel_rfl
theorem tyZ215 : tyZero Tryz.prog 215 = some [] := by kernel_rfl
theorem tyW215 : tyZeroT Tryz.prog 215 = some [] := by kernel_rfl
theorem tyF215 : tyFlds Tryz.prog 215 = some [(0, 0)] := by kernel_rfl
theorem tyS216 : tySize Tryz.prog 216 = 0 := by kernel_rfl
theorem tyA216 : tyAgg Tryz.prog 216 = some true := by kernel_rfl
theorem tyG216 : tyTag Tryz.prog 216 = none := by kernel_rfl
theorem tyY216 : tyBytes Tryz.prog 216 = 0 := by kernel_rfl
theorem tyZ216 : tyZero Tryz.prog 216 = some [] := by kernel_rfl
theorem tyW216 : tyZeroT Tryz.prog 216 = some [] := by kernel_rfl
theorem tyF216 : tyFlds Tryz.prog 216 = some [(0, 0)] := by kernel_rfl
theorem tyS217 : tySize Tryz.prog 217 = 1 := by kernel_rfl
theorem tyA217 : tyAgg Tryz.prog 217 = some false := by kernel_rfl
theorem tyS218 : tySize Tryz.prog 218 = 1 := by kernel_rfl
theorem tyA218 : tyAgg Tryz.prog 218 = some false := by kernel_rfl
theorem tyG218 : tyTag Tryz.prog 218 = none := by kernel_rfl
theorem tyI218 : tyInt Tryz.prog 218 = some .u8 := by kernel_rfl
theorem tyY218 : tyBytes Tryz.prog 218 = 1 := by kernel_rfl
theorem tyZ218 : tyZero Tryz.prog 218 = some [.d (.i .u8 0)] := by kernel_rfl
theorem tyW218 : tyZeroT Tryz.prog 218 = some [.i .u8 0] := by kernel_rfl
theorem tyS219 : tySize Tryz.prog 219 = 1 := by kernel_rfl
theorem tyA219 : tyAgg Tryz.prog 219 = some false := by kernel_rfl
theorem tyG219 : tyTag Tryz.prog 219 = none := by kernel_rfl
theorem tyI219 : tyInt Tryz.prog 219 = some .u8 := by kernel_rfl
theorem tyY219 : tyBytes Tryz.prog 219 = 1 := by kernel_rfl
theorem tyZ219 : tyZero Tryz.prog 219 = some [.d (.i .u8 0)] := by kernel_rfl
theorem tyW219 : tyZeroT Tryz.prog 219 = some [.i .u8 0] := by kernel_rfl
theorem tyS220 : tySize Tryz.prog 220 = 1 := by kernel_rfl
theorem tyA220 : tyAgg Tryz.prog 220 = some false := by kernel_rfl
theorem tyS221 : tySize Tryz.prog 221 = 1 := by kernel_rfl
theorem tyA221 : tyAgg Tryz.prog 221 = some false := by kernel_rfl
theorem tyG221 : tyTag Tryz.prog 221 = none := by kernel_rfl
theorem tyI221 : tyInt Tryz.prog 221 = some .i32 := by kernel_rfl
theorem tyY221 : tyBytes Tryz.prog 221 = 4 := by kernel_rfl
theorem tyZ221 : tyZero Tryz.prog 221 = some [.d (.i .i32 0)] := by kernel_rfl
theorem tyW221 : tyZeroT Tryz.prog 221 = some [.i .i32 0] := by kernel_rfl
theorem tyS222 : tySize Tryz.prog 222 = 1 := by kernel_rfl
theorem tyA222 : tyAgg Tryz.prog 222 = some false := by kernel_rfl
theorem tyG222 : tyTag Tryz.prog 222 = none := by kernel_rfl
theorem tyI222 : tyInt Tryz.prog 222 = some .i32 := by kernel_rfl
theorem tyY222 : tyBytes Tryz.prog 222 = 4 := by kernel_rfl
theorem tyZ222 : tyZero Tryz.prog 222 = some [.d (.i .i32 0)] := by kernel_rfl
theorem tyW222 : tyZeroT Tryz.prog 222 = some [.i .i32 0] := by kernel_rfl
theorem tyS223 : tySize Tryz.prog 223 = 11 := by kernel_rfl
theorem tyA223 : tyAgg Tryz.prog 223 = some true := by kernel_rfl
theorem tyG223 : tyTag Tryz.prog 223 = none := by kernel_rfl
theorem tyY223 : tyBytes Tryz.prog 223 = 48 := by kernel_rfl
theorem tyZ223 : tyZero Tryz.prog 223 = some [.d (.i .u64 0), .d (.i .u64 0), .d (.i .u32 0), .d (.i .u8 0), .d (.i .u8 0), .d (.i .u8 0), .d (.i .u8 0), .unk, .d (.raw (.pointer none)), .d (.i .i32 0), .d (.i .i32 0)] := by kernel_rfl
theorem tyO223_0 : tyOff Tryz.prog 223 0 = some 0 := by kernel_rfl
theorem tyO223_1 : tyOff Tryz.prog 223 1 = some 1 := by kernel_rfl
theorem tyO223_2 : tyOff Tryz.prog 223 2 = some 2 := by kernel_rfl
theorem tyO223_3 : tyOff Tryz.prog 223 3 = some 3 := by kernel_rfl
theorem tyO223_4 : tyOff Tryz.prog 223 4 = some 4 := by kernel_rfl
theorem tyO223_5 : tyOff Tryz.prog 223 5 = some 5 := by kernel_rfl
theorem tyO223_6 : tyOff Tryz.prog 223 6 = some 6 := by kernel_rfl
theorem tyO223_7 : tyOff Tryz.prog 223 7 = some 7 := by kernel_rfl
theorem tyO223_8 : tyOff Tryz.prog 223 8 = some 8 := by kernel_rfl
theorem tyO223_9 : tyOff Tryz.prog 223 9 = some 9 := by kernel_rfl
theorem tyO223_10 : tyOff Tryz.prog 223 10 = some 10 := by kernel_rfl
theorem tyF223 : tyFlds Tryz.prog 223 = some [(0, 1), (1, 1), (2, 1), (3, 1), (4, 1), (5, 1), (6, 1), (7, 1), (8, 1), (9, 1), (10, 1)] := by kernel_rfl
theorem tyS224 : tySize Tryz.prog 224 = 11 := by kernel_rfl
theorem tyA224 : tyAgg Tryz.prog 224 = some true := by kernel_rfl
theorem tyG224 : tyTag Tryz.prog 224 = none := by kernel_rfl
theorem tyY224 : tyBytes Tryz.prog 224 = 48 := by kernel_rfl
theorem tyZ224 : tyZero Tryz.prog 224 = some [.d (.i .u64 0), .d (.i .u64 0), .d (.i .u32 0), .d (.i .u8 0), .d (.i .u8 0), .d (.i .u8 0), .d (.i .u8 0), .unk, .d (.raw (.pointer none)), .d (.i .i32 0), .d (.i .i32 0)] := by kernel_rfl
theorem tyO224_0 : tyOff Tryz.prog 224 0 = some 0 := by kernel_rfl
theorem tyO224_1 : tyOff Tryz.prog 224 1 = some 1 := by kernel_rfl
theorem tyO224_2 : tyOff Tryz.prog 224 2 = some 2 := by kernel_rfl
theorem tyO224_3 : tyOff Tryz.prog 224 3 = some 3 := by kernel_rfl
theorem tyO224_4 : tyOff Tryz.prog 224 4 = some 4 := by kernel_rfl
theorem tyO224_5 : tyOff Tryz.prog 224 5 = some 5 := by kernel_rfl
theorem tyO224_6 : tyOff Tryz.prog 224 6 = some 6 := by kernel_rfl
theorem tyO224_7 : tyOff Tryz.prog 224 7 = some 7 := by kernel_rfl
theorem tyO224_8 : tyOff Tryz.prog 224 8 = some 8 := by kernel_rfl
theorem tyO224_9 : tyOff Tryz.prog 224 9 = some 9 := by kernel_rfl
theorem tyO224_10 : tyOff Tryz.prog 224 10 = some 10 := by kernel_rfl
theorem tyF224 : tyFlds Tryz.prog 224 = some [(0, 1), (1, 1), (2, 1), (3, 1), (4, 1), (5, 1), (6, 1), (7, 1), (8, 1), (9, 1), (10, 1)] := by kernel_rfl
theorem tyS225 : tySize Tryz.prog 225 = 1 := by kernel_rfl
theorem tyA225 : tyAgg Tryz.prog 225 = some false := by kernel_rfl
attribute [push_cast] tyS1 tyA1 tyS2 tyA2 tyG2 tyI2 tyY2 tyZ2 tyW2 tyS3 tyA3 tyL3 tyG3 tyI3 tyY3 tyZ3 tyW3 tyS4 tyA4 tyG4 tyB4 tyY4 tyZ4 tyW4 tyS5 tyA5 tyL5 tyG5 tyI5 tyY5 tyZ5 tyW5 tyS6 tyA6 tyG6 tyI6 tyY6 tyZ6 tyW6 tyS7 tyA7 tyG7 tyY7 tyZ7 tyW7 tyO7_0 tyO7_1 tyO7_2 tyO7_3 tyF7 tyS8 tyA8 tyG8 tyY8 tyZ8 tyW8 tyO8_0 tyO8_1 tyO8_2 tyO8_3 tyF8 tyS9 tyA9 tyL9 tyG9 tyT9 tyI9 tyY9 tyZ9 tyW9 tyS10 tyA10 tyG10 tyT10 tyI10 tyY10 tyZ10 tyW10 tyS11 tyA11 tyG11 tyT11 tyI11 tyY11 tyZ11 tyW11 tyS12 tyA12 tyG12 tyI12 tyY12 tyZ12 tyW12 tyS13 tyA13 tyG13 tyY13 tyZ13 tyW13 tyO13_0 tyO13_1 tyF13 tyS14 tyA14 tyG14 tyY14 tyZ14 tyW14 tyO14_0 tyO14_1 tyF14 tyS15 tyA15 tyG15 tyQ15 tyI15 tyT15 tyU15 tyZ15 tyS16 tyA16 tyG16 tyQ16 tyI16 tyT16 tyU16 tyZ16 tyS17 tyA17 tyG17 tyQ17 tyI17 tyT17 tyU17 tyZ17 tyS18 tyA18 tyG18 tyY18 tyZ18 tyO18_0 tyF18 tyS19 tyA19 tyG19 tyY19 tyZ19 tyO19_0 tyF19 tyS21 tyA21 tyG21 tyI21 tyY21 tyZ21 tyW21 tyS22 tyA22 tyE22 tyI22 tyT22 tyL22 tyG22 tyY22 tyZ22 tyW22 tyS23 tyA23 tyE23 tyI23 tyT23 tyG23 tyY23 tyZ23 tyW23 tyS24 tyA24 tyG24 tyY24 tyZ24 tyW24 tyO24_0 tyO24_1 tyO24_2 tyO24_3 tyO24_4 tyF24 tyS25 tyA25 tyG25 tyY25 tyZ25 tyW25 tyO25_0 tyO25_1 tyO25_2 tyO25_3 tyO25_4 tyF25 tyS26 tyA26 tyS27 tyA27 tyS28 tyA28 tyE28 tyI28 tyT28 tyG28 tyY28 tyZ28 tyW28 tyS29 tyA29 tyG29 tyY29 tyZ29 tyW29 tyO29_0 tyO29_1 tyO29_2 tyO29_3 tyO29_4 tyF29 tyS30 tyA30 tyL30 tyG30 tyY30 tyZ30 tyW30 tyO30_0 tyO30_1 tyO30_2 tyO30_3 tyO30_4 tyF30 tyS31 tyA31 tyS32 tyA32 tyS33 tyA33 tyS35 tyA35 tyS36 tyA36 tyS38 tyA38 tyS39 tyA39 tyS40 tyA40 tyS41 tyA41 tyE41 tyI41 tyT41 tyG41 tyY41 tyZ41 tyW41 tyS43 tyA43 tyS44 tyA44 tyS45 tyA45 tyS46 tyA46 tyE46 tyI46 tyT46 tyG46 tyY46 tyZ46 tyW46 tyS47 tyA47 tyS49 tyA49 tyS50 tyA50 tyS51 tyA51 tyG51 tyI51 tyY51 tyZ51 tyW51 tyS52 tyA52 tyS53 tyA53 tyS54 tyA54 tyS55 tyA55 tyS56 tyA56 tyS57 tyA57 tyS58 tyA58 tyS59 tyA59 tyE59 tyI59 tyT59 tyG59 tyY59 tyZ59 tyW59 tyS60 tyA60 tyG60 tyY60 tyZ60 tyW60 tyO60_0 tyO60_1 tyF60 tyS61 tyA61 tyG61 tyY61 tyZ61 tyW61 tyO61_0 tyO61_1 tyF61 tyS62 tyA62 tyG62 tyY62 tyZ62 tyW62 tyO62_0 tyO62_1 tyF62 tyS63 tyA63 tyL63 tyG63 tyY63 tyZ63 tyW63 tyO63_0 tyO63_1 tyF63 tyS64 tyA64 tyS65 tyA65 tyS66 tyA66 tyS67 tyA67 tyS68 tyA68 tyS70 tyA70 tyS72 tyA72 tyS74 tyA74 tyS75 tyA75 tyG75 tyQ75 tyI75 tyT75 tyU75 tyZ75 tyS76 tyA76 tyG76 tyY76 tyZ76 tyW76 tyO76_0 tyO76_1 tyO76_2 tyF76 tyS77 tyA77 tyG77 tyY77 tyZ77 tyW77 tyO77_0 tyO77_1 tyO77_2 tyF77 tyP77 tyS78 tyA78 tyS79 tyA79 tyS80 tyA80 tyS81 tyA81 tyG81 tyQ81 tyI81 tyT81 tyU81 tyZ81 tyS82 tyA82 tyS83 tyA83 tyS84 tyA84 tyS85 tyA85 tyS86 tyA86 tyS87 tyA87 tyS88 tyA88 tyS89 tyA89 tyS90 tyA90 tyS91 tyA91 tyS92 tyA92 tyS93 tyA93 tyG93 tyY93 tyZ93 tyW93 tyO93_0 tyO93_1 tyF93 tyS94 tyA94 tyL94 tyG94 tyY94 tyZ94 tyW94 tyO94_0 tyO94_1 tyF94 tyS95 tyA95 tyE95 tyI95 tyT95 tyG95 tyY95 tyZ95 tyW95 tyS96 tyA96 tyS97 tyA97 tyE97 tyI97 tyT97 tyG97 tyY97 tyZ97 tyW97 tyS98 tyA98 tyG98 tyY98 tyZ98 tyW98 tyO98_0 tyO98_1 tyF98 tyS99 tyA99 tyG99 tyY99 tyZ99 tyW99 tyO99_0 tyO99_1 tyF99 tyS100 tyA100 tyG100 tyY100 tyZ100 tyW100 tyO100_0 tyO100_1 tyF100 tyS101 tyA101 tyL101 tyG101 tyY101 tyZ101 tyW101 tyO101_0 tyO101_1 tyF101 tyS102 tyA102 tyS103 tyA103 tyG103 tyY103 tyZ103 tyW103 tyO103_0 tyO103_1 tyO103_2 tyF103 tyS104 tyA104 tyL104 tyG104 tyY104 tyZ104 tyW104 tyO104_0 tyO104_1 tyO104_2 tyF104 tyP104 tyS105 tyA105 tyS106 tyA106 tyE106 tyI106 tyT106 tyL106 tyG106 tyY106 tyZ106 tyW106 tyS107 tyA107 tyG107 tyY107 tyZ107 tyW107 tyO107_0 tyO107_1 tyF107 tyS108 tyA108 tyL108 tyG108 tyY108 tyZ108 tyW108 tyO108_0 tyO108_1 tyF108 tyS109 tyA109 tyS110 tyA110 tyG110 tyQ110 tyI110 tyT110 tyU110 tyZ110 tyS111 tyA111 tyG111 tyY111 tyZ111 tyO111_0 tyO111_1 tyF111 tyS112 tyA112 tyG112 tyV112 tyY112 tyZ112 tyO112_0 tyO112_1 tyF112 tyS116 tyA116 tyS117 tyA117 tyS118 tyA118 tyS120 tyA120 tyS121 tyA121 tyS122 tyA122 tyS123 tyA123 tyS124 tyA124 tyG124 tyY124 tyZ124 tyW124 tyO124_0 tyO124_1 tyO124_2 tyF124 tyS125 tyA125 tyG125 tyY125 tyZ125 tyW125 tyO125_0 tyO125_1 tyO125_2 tyF125 tyS126 tyA126 tyS127 tyA127 tyS128 tyA128 tyE128 tyI128 tyT128 tyG128 tyY128 tyZ128 tyW128 tyS129 tyA129 tyS130 tyA130 tyS131 tyA131 tyS132 tyA132 tyS133 tyA133 tyS134 tyA134 tyS135 tyA135 tyS136 tyA136 tyS137 tyA137 tyS138 tyA138 tyS139 tyA139 tyS140 tyA140 tyS141 tyA141 tyS142 tyA142 tyS143 tyA143 tyG143 tyI143 tyY143 tyZ143 tyW143 tyS144 tyA144 tyS145 tyA145 tyG145 tyQ145 tyI145 tyT145 tyU145 tyZ145 tyS146 tyA146 tyG146 tyI146 tyY146 tyZ146 tyW146 tyS147 tyA147 tyS148 tyA148 tyS149 tyA149 tyS150 tyA150 tyS151 tyA151 tyS152 tyA152 tyS153 tyA153 tyS154 tyA154 tyS155 tyA155 tyS156 tyA156 tyS157 tyA157 tyS158 tyA158 tyS159 tyA159 tyS160 tyA160 tyS161 tyA161 tyS162 tyA162 tyU162 tyI162 tyT162 tyQ162 tyS163 tyA163 tyS164 tyA164 tyS165 tyA165 tyE165 tyI165 tyT165 tyG165 tyY165 tyZ165 tyW165 tyS166 tyA166 tyS167 tyA167 tyS168 tyA168 tyS169 tyA169 tyE169 tyI169 tyT169 tyG169 tyY169 tyZ169 tyW169 tyS170 tyA170 tyS171 tyA171 tyS172 tyA172 tyS173 tyA173 tyS174 tyA174 tyS175 tyA175 tyS176 tyA176 tyS177 tyA177 tyS178 tyA178 tyE178 tyI178 tyT178 tyG178 tyY178 tyZ178 tyW178 tyS179 tyA179 tyG179 tyY179 tyZ179 tyW179 tyO179_0 tyO179_1 tyF179 tyS180 tyA180 tyL180 tyG180 tyY180 tyZ180 tyW180 tyO180_0 tyO180_1 tyF180 tyS181 tyA181 tyS182 tyA182 tyS183 tyA183 tyS184 tyA184 tyS185 tyA185 tyG185 tyI185 tyY185 tyZ185 tyW185 tyS187 tyA187 tyS188 tyA188 tyS189 tyA189 tyS190 tyA190 tyS192 tyA192 tyS193 tyA193 tyS194 tyA194 tyS195 tyA195 tyS196 tyA196 tyS197 tyA197 tyS198 tyA198 tyS199 tyA199 tyS200 tyA200 tyG200 tyI200 tyY200 tyZ200 tyW200 tyS201 tyA201 tyS202 tyA202 tyS203 tyA203 tyS204 tyA204 tyG204 tyQ204 tyI204 tyT204 tyU204 tyZ204 tyS205 tyA205 tyS206 tyA206 tyS207 tyA207 tyL207 tyG207 tyY207 tyZ207 tyW207 tyO207_0 tyO207_1 tyO207_2 tyF207 tyP207 tyS208 tyA208 tyS209 tyA209 tyS210 tyA210 tyG210 tyQ210 tyI210 tyT210 tyU210 tyZ210 tyS211 tyA211 tyS212 tyA212 tyG212 tyY212 tyZ212 tyO212_0 tyO212_1 tyO212_2 tyO212_3 tyF212 tyS213 tyA213 tyG213 tyY213 tyZ213 tyO213_0 tyO213_1 tyO213_2 tyO213_3 tyF213 tyS214 tyA214 tyG214 tyZ214 tyW214 tyS215 tyA215 tyG215 tyY215 tyZ215 tyW215 tyF215 tyS216 tyA216 tyG216 tyY216 tyZ216 tyW216 tyF216 tyS217 tyA217 tyS218 tyA218 tyG218 tyI218 tyY218 tyZ218 tyW218 tyS219 tyA219 tyG219 tyI219 tyY219 tyZ219 tyW219 tyS220 tyA220 tyS221 tyA221 tyG221 tyI221 tyY221 tyZ221 tyW221 tyS222 tyA222 tyG222 tyI222 tyY222 tyZ222 tyW222 tyS223 tyA223 tyG223 tyY223 tyZ223 tyO223_0 tyO223_1 tyO223_2 tyO223_3 tyO223_4 tyO223_5 tyO223_6 tyO223_7 tyO223_8 tyO223_9 tyO223_10 tyF223 tyS224 tyA224 tyG224 tyY224 tyZ224 tyO224_0 tyO224_1 tyO224_2 tyO224_3 tyO224_4 tyO224_5 tyO224_6 tyO224_7 tyO224_8 tyO224_9 tyO224_10 tyF224 tyS225 tyA225
end Go.Av
end
