/- Facts on the types of this seat, each by the kernel. -/
import Derived.Test.YtnbdlncbfjkpcaaGreatAvE
import Derived.Test.YtnbdlncbfjkpcaaGreatProg
import Derived.KernelRfl
set_option linter.all false
set_option linter.unusedVariables false
set_option linter.unusedSimpArgs false

section
namespace Go.Av
open Go.Proofs
theorem tyS1 : tySize Tryz.prog 1 = 1 := by kernel_rfl
theorem tyA1 : tyAgg Tryz.prog 1 = some false := by kernel_rfl
theorem tyS2 : tySize Tryz.prog 2 = 1 := by kernel_rfl
theorem tyA2 : tyAgg Tryz.prog 2 = some false := by kernel_rfl
theorem tyG2 : tyTag Tryz.prog 2 = none := by kernel_rfl
theorem tyI2 : tyInt Tryz.prog 2 = some .i64 := by kernel_rfl
theorem tyY2 : tyBytes Tryz.prog 2 = 8 := by kernel_rfl
theorem tyZ2 : tyZero Tryz.prog 2 = some [.d (.i .i64 0)] := by kernel_rfl
theorem tyW2 : tyZeroT Tryz.prog 2 = some [.i .i64 0] := by kernel_rfl
theorem tyS3 : tySize Tryz.prog 3 = 1 := by kernel_rfl
theorem tyA3 : tyAgg Tryz.prog 3 = some false := by kernel_rfl
theorem tyL3 : elAnn Tryz.prog 3 = .any := by kernel_rfl
theorem tyG3 : tyTag Tryz.prog 3 = none := by kernel_rfl
theorem tyI3 : tyInt Tryz.prog 3 = some .i64 := by kernel_rfl
theorem tyY3 : tyBytes Tryz.prog 3 = 8 := by kernel_rfl
theorem tyZ3 : tyZero Tryz.prog 3 = some [.d (.i .i64 0)] := by kernel_rfl
theorem tyW3 : tyZeroT Tryz.prog 3 = some [.i .i64 0] := by kernel_rfl
theorem tyS4 : tySize Tryz.prog 4 = 1 := by kernel_rfl
theorem tyA4 : tyAgg Tryz.prog 4 = some false := by kernel_rfl
theorem tyG4 : tyTag Tryz.prog 4 = none := by kernel_rfl
theorem tyB4 : tyBool Tryz.prog 4 = true := by kernel_rfl
theorem tyY4 : tyBytes Tryz.prog 4 = 1 := by kernel_rfl
theorem tyZ4 : tyZero Tryz.prog 4 = some [.d (.b false)] := by kernel_rfl
theorem tyW4 : tyZeroT Tryz.prog 4 = some [.b false] := by kernel_rfl
theorem tyS5 : tySize Tryz.prog 5 = 1 := by kernel_rfl
theorem tyA5 : tyAgg Tryz.prog 5 = some false := by kernel_rfl
theorem tyL5 : elAnn Tryz.prog 5 = .u8 5 := by kernel_rfl
theorem tyG5 : tyTag Tryz.prog 5 = none := by kernel_rfl
theorem tyI5 : tyInt Tryz.prog 5 = some .u8 := by kernel_rfl
theorem tyY5 : tyBytes Tryz.prog 5 = 1 := by kernel_rfl
theorem tyZ5 : tyZero Tryz.prog 5 = some [.d (.i .u8 0)] := by kernel_rfl
theorem tyW5 : tyZeroT Tryz.prog 5 = some [.i .u8 0] := by kernel_rfl
theorem tyS6 : tySize Tryz.prog 6 = 1 := by kernel_rfl
theorem tyA6 : tyAgg Tryz.prog 6 = some false := by kernel_rfl
theorem tyG6 : tyTag Tryz.prog 6 = none := by kernel_rfl
theorem tyI6 : tyInt Tryz.prog 6 = some .u8 := by kernel_rfl
theorem tyY6 : tyBytes Tryz.prog 6 = 1 := by kernel_rfl
theorem tyZ6 : tyZero Tryz.prog 6 = some [.d (.i .u8 0)] := by kernel_rfl
theorem tyW6 : tyZeroT Tryz.prog 6 = some [.i .u8 0] := by kernel_rfl
theorem tyS7 : tySize Tryz.prog 7 = 4 := by kernel_rfl
theorem tyA7 : tyAgg Tryz.prog 7 = some true := by kernel_rfl
theorem tyG7 : tyTag Tryz.prog 7 = none := by kernel_rfl
theorem tyY7 : tyBytes Tryz.prog 7 = 24 := by kernel_rfl
theorem tyZ7 : tyZero Tryz.prog 7 = some [.d (.i .i64 0), .d (.i .i64 0), .d (.b false), .d (.i .u8 0)] := by kernel_rfl
theorem tyW7 : tyZeroT Tryz.prog 7 = some [.i .i64 0, .i .i64 0, .b false, .i .u8 0] := by kernel_rfl
theorem tyO7_0 : tyOff Tryz.prog 7 0 = some 0 := by kernel_rfl
theorem tyO7_1 : tyOff Tryz.prog 7 1 = some 1 := by kernel_rfl
theorem tyO7_2 : tyOff Tryz.prog 7 2 = some 2 := by kernel_rfl
theorem tyO7_3 : tyOff Tryz.prog 7 3 = some 3 := by kernel_rfl
theorem tyF7 : tyFlds Tryz.prog 7 = some [(0, 1), (1, 1), (2, 1), (3, 1)] := by kernel_rfl
theorem tyS8 : tySize Tryz.prog 8 = 4 := by kernel_rfl
theorem tyA8 : tyAgg Tryz.prog 8 = some true := by kernel_rfl
theorem tyG8 : tyTag Tryz.prog 8 = none := by kernel_rfl
theorem tyY8 : tyBytes Tryz.prog 8 = 24 := by kernel_rfl
theorem tyZ8 : tyZero Tryz.prog 8 = some [.d (.i .i64 0), .d (.i .i64 0), .d (.b false), .d (.i .u8 0)] := by kernel_rfl
theorem tyW8 : tyZeroT Tryz.prog 8 = some [.i .i64 0, .i .i64 0, .b false, .i .u8 0] := by kernel_rfl
theorem tyO8_0 : tyOff Tryz.prog 8 0 = some 0 := by kernel_rfl
theorem tyO8_1 : tyOff Tryz.prog 8 1 = some 1 := by kernel_rfl
theorem tyO8_2 : tyOff Tryz.prog 8 2 = some 2 := by kernel_rfl
theorem tyO8_3 : tyOff Tryz.prog 8 3 = some 3 := by kernel_rfl
theorem tyF8 : tyFlds Tryz.prog 8 = some [(0, 1), (1, 1), (2, 1), (3, 1)] := by kernel_rfl
theorem tyS9 : tySize Tryz.prog 9 = 1 := by kernel_rfl
theorem tyA9 : tyAgg Tryz.prog 9 = some false := by kernel_rfl
theorem tyL9 : elAnn Tryz.prog 9 = .any := by kernel_rfl
theorem tyG9 : tyTag Tryz.prog 9 = none := by kernel_rfl
theorem tyT9 : tyStr Tryz.prog 9 = true := by kernel_rfl
theorem tyI9 : tyInt Tryz.prog 9 = none := by kernel_rfl
theorem tyY9 : tyBytes Tryz.prog 9 = 16 := by kernel_rfl
theorem tyZ9 : tyZero Tryz.prog 9 = some [.d (.s ⟨#[]⟩)] := by kernel_rfl
theorem tyW9 : tyZeroT Tryz.prog 9 = some [.s ⟨#[]⟩] := by kernel_rfl
theorem tyS10 : tySize Tryz.prog 10 = 1 := by kernel_rfl
theorem tyA10 : tyAgg Tryz.prog 10 = some false := by kernel_rfl
theorem tyG10 : tyTag Tryz.prog 10 = none := by kernel_rfl
theorem tyT10 : tyStr Tryz.prog 10 = true := by kernel_rfl
theorem tyI10 : tyInt Tryz.prog 10 = none := by kernel_rfl
theorem tyY10 : tyBytes Tryz.prog 10 = 16 := by kernel_rfl
theorem tyZ10 : tyZero Tryz.prog 10 = some [.d (.s ⟨#[]⟩)] := by kernel_rfl
theorem tyW10 : tyZeroT Tryz.prog 10 = some [.s ⟨#[]⟩] := by kernel_rfl
theorem tyS11 : tySize Tryz.prog 11 = 1 := by kernel_rfl
theorem tyA11 : tyAgg Tryz.prog 11 = some false := by kernel_rfl
theorem tyG11 : tyTag Tryz.prog 11 = none := by kernel_rfl
theorem tyT11 : tyStr Tryz.prog 11 = true := by kernel_rfl
theorem tyI11 : tyInt Tryz.prog 11 = none := by kernel_rfl
theorem tyY11 : tyBytes Tryz.prog 11 = 16 := by kernel_rfl
theorem tyZ11 : tyZero Tryz.prog 11 = some [.d (.s ⟨#[]⟩)] := by kernel_rfl
theorem tyW11 : tyZeroT Tryz.prog 11 = some [.s ⟨#[]⟩] := by kernel_rfl
theorem tyS12 : tySize Tryz.prog 12 = 1 := by kernel_rfl
theorem tyA12 : tyAgg Tryz.prog 12 = some false := by kernel_rfl
theorem tyG12 : tyTag Tryz.prog 12 = none := by kernel_rfl
theorem tyI12 : tyInt Tryz.prog 12 = some .u64 := by kernel_rfl
theorem tyY12 : tyBytes Tryz.prog 12 = 8 := by kernel_rfl
theorem tyZ12 : tyZero Tryz.prog 12 = some [.d (.i .u64 0)] := by kernel_rfl
theorem tyW12 : tyZeroT Tryz.prog 12 = some [.i .u64 0] := by kernel_rfl
theorem tyS13 : tySize Tryz.prog 13 = 2 := by kernel_rfl
theorem tyA13 : tyAgg Tryz.prog 13 = some true := by kernel_rfl
theorem tyG13 : tyTag Tryz.prog 13 = none := by kernel_rfl
theorem tyY13 : tyBytes Tryz.prog 13 = 24 := by kernel_rfl
theorem tyZ13 : tyZero Tryz.prog 13 = some [.d (.s ⟨#[]⟩), .d (.i .u64 0)] := by kernel_rfl
theorem tyW13 : tyZeroT Tryz.prog 13 = some [.s ⟨#[]⟩, .i .u64 0] := by kernel_rfl
theorem tyO13_0 : tyOff Tryz.prog 13 0 = some 0 := by kernel_rfl
theorem tyO13_1 : tyOff Tryz.prog 13 1 = some 1 := by kernel_rfl
theorem tyF13 : tyFlds Tryz.prog 13 = some [(0, 1), (1, 1)] := by kernel_rfl
theorem tyS14 : tySize Tryz.prog 14 = 2 := by kernel_rfl
theorem tyA14 : tyAgg Tryz.prog 14 = some true := by kernel_rfl
theorem tyG14 : tyTag Tryz.prog 14 = none := by kernel_rfl
theorem tyY14 : tyBytes Tryz.prog 14 = 24 := by kernel_rfl
theorem tyZ14 : tyZero Tryz.prog 14 = some [.d (.s ⟨#[]⟩), .d (.i .u64 0)] := by kernel_rfl
theorem tyW14 : tyZeroT Tryz.prog 14 = some [.s ⟨#[]⟩, .i .u64 0] := by kernel_rfl
theorem tyO14_0 : tyOff Tryz.prog 14 0 = some 0 := by kernel_rfl
theorem tyO14_1 : tyOff Tryz.prog 14 1 = some 1 := by kernel_rfl
theorem tyF14 : tyFlds Tryz.prog 14 = some [(0, 1), (1, 1)] := by kernel_rfl
theorem tyS15 : tySize Tryz.prog 15 = 1 := by kernel_rfl
theorem tyA15 : tyAgg Tryz.prog 15 = some false := by kernel_rfl
theorem tyG15 : tyTag Tryz.prog 15 = none := by kernel_rfl
theorem tyQ15 : tyPtr Tryz.prog 15 = some 182 := by kernel_rfl
theorem tyI15 : tyInt Tryz.prog 15 = none := by kernel_rfl
theorem tyT15 : tyStr Tryz.prog 15 = false := by kernel_rfl
theorem tyU15 : tyUns Tryz.prog 15 = false := by kernel_rfl
theorem tyZ15 : tyZero Tryz.prog 15 = some [.d (.raw (.pointer none))] := by kernel_rfl
theorem tyS16 : tySize Tryz.prog 16 = 1 := by kernel_rfl
theorem tyA16 : tyAgg Tryz.prog 16 = some false := by kernel_rfl
theorem tyG16 : tyTag Tryz.prog 16 = none := by kernel_rfl
theorem tyQ16 : tyPtr Tryz.prog 16 = some 185 := by kernel_rfl
theorem tyI16 : tyInt Tryz.prog 16 = none := by kernel_rfl
theorem tyT16 : tyStr Tryz.prog 16 = false := by kernel_rfl
theorem tyU16 : tyUns Tryz.prog 16 = false := by kernel_rfl
theorem tyZ16 : tyZero Tryz.prog 16 = some [.d (.raw (.pointer none))] := by kernel_rfl
theorem tyS17 : tySize Tryz.prog 17 = 1 := by kernel_rfl
theorem tyA17 : tyAgg Tryz.prog 17 = some false := by kernel_rfl
theorem tyG17 : tyTag Tryz.prog 17 = none := by kernel_rfl
theorem tyQ17 : tyPtr Tryz.prog 17 = some 193 := by kernel_rfl
theorem tyI17 : tyInt Tryz.prog 17 = none := by kernel_rfl
theorem tyT17 : tyStr Tryz.prog 17 = false := by kernel_rfl
theorem tyU17 : tyUns Tryz.prog 17 = false := by kernel_rfl
theorem tyZ17 : tyZero Tryz.prog 17 = some [.d (.raw (.pointer none))] := by kernel_rfl
theorem tyS18 : tySize Tryz.prog 18 = 1 := by kernel_rfl
theorem tyA18 : tyAgg Tryz.prog 18 = some true := by kernel_rfl
theorem tyG18 : tyTag Tryz.prog 18 = none := by kernel_rfl
theorem tyY18 : tyBytes Tryz.prog 18 = 8 := by kernel_rfl
theorem tyZ18 : tyZero Tryz.prog 18 = some [.d (.raw (.pointer none))] := by kernel_rfl
theorem tyO18_0 : tyOff Tryz.prog 18 0 = some 0 := by kernel_rfl
theorem tyF18 : tyFlds Tryz.prog 18 = some [(0, 1)] := by kernel_rfl
theorem tyS19 : tySize Tryz.prog 19 = 1 := by kernel_rfl
theorem tyA19 : tyAgg Tryz.prog 19 = some true := by kernel_rfl
theorem tyG19 : tyTag Tryz.prog 19 = none := by kernel_rfl
theorem tyY19 : tyBytes Tryz.prog 19 = 8 := by kernel_rfl
theorem tyZ19 : tyZero Tryz.prog 19 = some [.d (.raw (.pointer none))] := by kernel_rfl
theorem tyO19_0 : tyOff Tryz.prog 19 0 = some 0 := by kernel_rfl
theorem tyF19 : tyFlds Tryz.prog 19 = some [(0, 1)] := by kernel_rfl
theorem tyS21 : tySize Tryz.prog 21 = 1 := by kernel_rfl
theorem tyA21 : tyAgg Tryz.prog 21 = some false := by kernel_rfl
theorem tyG21 : tyTag Tryz.prog 21 = none := by kernel_rfl
theorem tyI21 : tyInt Tryz.prog 21 = some .i32 := by kernel_rfl
theorem tyY21 : tyBytes Tryz.prog 21 = 4 := by kernel_rfl
theorem tyZ21 : tyZero Tryz.prog 21 = some [.d (.i .i32 0)] := by kernel_rfl
theorem tyW21 : tyZeroT Tryz.prog 21 = some [.i .i32 0] := by kernel_rfl
theorem tyS22 : tySize Tryz.prog 22 = 1 := by kernel_rfl
theorem tyA22 : tyAgg Tryz.prog 22 = some false := by kernel_rfl
theorem tyE22 : tyElem Tryz.prog 22 = some 9 := by kernel_rfl
theorem tyI22 : tyInt Tryz.prog 22 = none := by kernel_rfl
theorem tyT22 : tyStr Tryz.prog 22 = false := by kernel_rfl
theorem tyL22 : elAnn Tryz.prog 22 = .any := by kernel_rfl
theorem tyG22 : tyTag Tryz.prog 22 = none := by kernel_rfl
theorem tyY22 : tyBytes Tryz.prog 22 = 24 := by kernel_rfl
theorem tyZ22 : tyZero Tryz.prog 22 = some [.nl] := by kernel_rfl
theorem tyW22 : tyZeroT Tryz.prog 22 = some [.sl .any []] := by kernel_rfl
theorem tyS23 : tySize Tryz.prog 23 = 1 := by kernel_rfl
theorem tyA23 : tyAgg Tryz.prog 23 = some false := by kernel_rfl
theorem tyE23 : tyElem Tryz.prog 23 = some 58 := by kernel_rfl
theorem tyI23 : tyInt Tryz.prog 23 = none := by kernel_rfl
theorem tyT23 : tyStr Tryz.prog 23 = false := by kernel_rfl
theorem tyG23 : tyTag Tryz.prog 23 = none := by kernel_rfl
theorem tyY23 : tyBytes Tryz.prog 23 = 24 := by kernel_rfl
theorem tyZ23 : tyZero Tryz.prog 23 = some [.nl] := by kernel_rfl
theorem tyW23 : tyZeroT Tryz.prog 23 = some [.sl .any []] := by kernel_rfl
theorem tyS24 : tySize Tryz.prog 24 = 5 := by kernel_rfl
theorem tyA24 : tyAgg Tryz.prog 24 = some true := by kernel_rfl
theorem tyG24 : tyTag Tryz.prog 24 = none := by kernel_rfl
theorem tyY24 : tyBytes Tryz.prog 24 = 88 := by kernel_rfl
theorem tyZ24 : tyZero Tryz.prog 24 = some [.d (.i .i64 0), .d (.s ⟨#[]⟩), .nl, .d (.s ⟨#[]⟩), .nl] := by kernel_rfl
theorem tyW24 : tyZeroT Tryz.prog 24 = some [.i .i64 0, .s ⟨#[]⟩, .sl .any [], .s ⟨#[]⟩, .sl .any []] := by kernel_rfl
theorem tyO24_0 : tyOff Tryz.prog 24 0 = some 0 := by kernel_rfl
theorem tyO24_1 : tyOff Tryz.prog 24 1 = some 1 := by kernel_rfl
theorem tyO24_2 : tyOff Tryz.prog 24 2 = some 2 := by kernel_rfl
theorem tyO24_3 : tyOff Tryz.prog 24 3 = some 3 := by kernel_rfl
theorem tyO24_4 : tyOff Tryz.prog 24 4 = some 4 := by kernel_rfl
theorem tyF24 : tyFlds Tryz.prog 24 = some [(0, 1), (1, 1), (2, 1), (3, 1), (4, 1)] := by kernel_rfl
theorem tyS25 : tySize Tryz.prog 25 = 5 := by kernel_rfl
theorem tyA25 : tyAgg Tryz.prog 25 = some true := by kernel_rfl
theorem tyL25 : elAnn Tryz.prog 25 = .any := by kernel_rfl
theorem tyG25 : tyTag Tryz.prog 25 = none := by kernel_rfl
theorem tyY25 : tyBytes Tryz.prog 25 = 88 := by kernel_rfl
theorem tyZ25 : tyZero Tryz.prog 25 = some [.d (.i .i64 0), .d (.s ⟨#[]⟩), .nl, .d (.s ⟨#[]⟩), .nl] := by kernel_rfl
theorem tyW25 : tyZeroT Tryz.prog 25 = some [.i .i64 0, .s ⟨#[]⟩, .sl .any [], .s ⟨#[]⟩, .sl .any []] := by kernel_rfl
theorem tyO25_0 : tyOff Tryz.prog 25 0 = some 0 := by kernel_rfl
theorem tyO25_1 : tyOff Tryz.prog 25 1 = some 1 := by kernel_rfl
theorem tyO25_2 : tyOff Tryz.prog 25 2 = some 2 := by kernel_rfl
theorem tyO25_3 : tyOff Tryz.prog 25 3 = some 3 := by kernel_rfl
theorem tyO25_4 : tyOff Tryz.prog 25 4 = some 4 := by kernel_rfl
theorem tyF25 : tyFlds Tryz.prog 25 = some [(0, 1), (1, 1), (2, 1), (3, 1), (4, 1)] := by kernel_rfl
theorem tyS27 : tySize Tryz.prog 27 = 1 := by kernel_rfl
theorem tyA27 : tyAgg Tryz.prog 27 = some false := by kernel_rfl
theorem tyS28 : tySize Tryz.prog 28 = 1 := by kernel_rfl
theorem tyA28 : tyAgg Tryz.prog 28 = some false := by kernel_rfl
theorem tyS29 : tySize Tryz.prog 29 = 1 := by kernel_rfl
theorem tyA29 : tyAgg Tryz.prog 29 = some false := by kernel_rfl
theorem tyS30 : tySize Tryz.prog 30 = 1 := by kernel_rfl
theorem tyA30 : tyAgg Tryz.prog 30 = some false := by kernel_rfl
theorem tyS31 : tySize Tryz.prog 31 = 1 := by kernel_rfl
theorem tyA31 : tyAgg Tryz.prog 31 = some false := by kernel_rfl
theorem tyE31 : tyElem Tryz.prog 31 = some 25 := by kernel_rfl
theorem tyI31 : tyInt Tryz.prog 31 = none := by kernel_rfl
theorem tyT31 : tyStr Tryz.prog 31 = false := by kernel_rfl
theorem tyG31 : tyTag Tryz.prog 31 = none := by kernel_rfl
theorem tyY31 : tyBytes Tryz.prog 31 = 24 := by kernel_rfl
theorem tyZ31 : tyZero Tryz.prog 31 = some [.nl] := by kernel_rfl
theorem tyW31 : tyZeroT Tryz.prog 31 = some [.sl .any []] := by kernel_rfl
theorem tyS33 : tySize Tryz.prog 33 = 1 := by kernel_rfl
theorem tyA33 : tyAgg Tryz.prog 33 = some false := by kernel_rfl
theorem tyS34 : tySize Tryz.prog 34 = 1 := by kernel_rfl
theorem tyA34 : tyAgg Tryz.prog 34 = some false := by kernel_rfl
theorem tyS35 : tySize Tryz.prog 35 = 1 := by kernel_rfl
theorem tyA35 : tyAgg Tryz.prog 35 = some false := by kernel_rfl
theorem tyS36 : tySize Tryz.prog 36 = 1 := by kernel_rfl
theorem tyA36 : tyAgg Tryz.prog 36 = some false := by kernel_rfl
theorem tyE36 : tyElem Tryz.prog 36 = some 5 := by kernel_rfl
theorem tyI36 : tyInt Tryz.prog 36 = none := by kernel_rfl
theorem tyT36 : tyStr Tryz.prog 36 = false := by kernel_rfl
theorem tyG36 : tyTag Tryz.prog 36 = none := by kernel_rfl
theorem tyY36 : tyBytes Tryz.prog 36 = 24 := by kernel_rfl
theorem tyZ36 : tyZero Tryz.prog 36 = some [.nl] := by kernel_rfl
theorem tyW36 : tyZeroT Tryz.prog 36 = some [.sl .any []] := by kernel_rfl
theorem tyS37 : tySize Tryz.prog 37 = 1 := by kernel_rfl
theorem tyA37 : tyAgg Tryz.prog 37 = some false := by kernel_rfl
theorem tyS39 : tySize Tryz.prog 39 = 1 := by kernel_rfl
theorem tyA39 : tyAgg Tryz.prog 39 = some false := by kernel_rfl
theorem tyS40 : tySize Tryz.prog 40 = 1 := by kernel_rfl
theorem tyA40 : tyAgg Tryz.prog 40 = some false := by kernel_rfl
theorem tyS41 : tySize Tryz.prog 41 = 1 := by kernel_rfl
theorem tyA41 : tyAgg Tryz.prog 41 = some false := by kernel_rfl
theorem tyS43 : tySize Tryz.prog 43 = 1 := by kernel_rfl
theorem tyA43 : tyAgg Tryz.prog 43 = some false := by kernel_rfl
theorem tyS44 : tySize Tryz.prog 44 = 1 := by kernel_rfl
theorem tyA44 : tyAgg Tryz.prog 44 = some false := by kernel_rfl
theorem tyG44 : tyTag Tryz.prog 44 = none := by kernel_rfl
theorem tyI44 : tyInt Tryz.prog 44 = some .u32 := by kernel_rfl
theorem tyY44 : tyBytes Tryz.prog 44 = 4 := by kernel_rfl
theorem tyZ44 : tyZero Tryz.prog 44 = some [.d (.i .u32 0)] := by kernel_rfl
theorem tyW44 : tyZeroT Tryz.prog 44 = some [.i .u32 0] := by kernel_rfl
theorem tyS45 : tySize Tryz.prog 45 = 1 := by kernel_rfl
theorem tyA45 : tyAgg Tryz.prog 45 = some false := by kernel_rfl
theorem tyS46 : tySize Tryz.prog 46 = 1 := by kernel_rfl
theorem tyA46 : tyAgg Tryz.prog 46 = some false := by kernel_rfl
theorem tyS47 : tySize Tryz.prog 47 = 1 := by kernel_rfl
theorem tyA47 : tyAgg Tryz.prog 47 = some false := by kernel_rfl
theorem tyS49 : tySize Tryz.prog 49 = 1 := by kernel_rfl
theorem tyA49 : tyAgg Tryz.prog 49 = some false := by kernel_rfl
theorem tyS51 : tySize Tryz.prog 51 = 1 := by kernel_rfl
theorem tyA51 : tyAgg Tryz.prog 51 = some false := by kernel_rfl
theorem tyS52 : tySize Tryz.prog 52 = 1 := by kernel_rfl
theorem tyA52 : tyAgg Tryz.prog 52 = some false := by kernel_rfl
theorem tyE52 : tyElem Tryz.prog 52 = some 92 := by kernel_rfl
theorem tyI52 : tyInt Tryz.prog 52 = none := by kernel_rfl
theorem tyT52 : tyStr Tryz.prog 52 = false := by kernel_rfl
theorem tyG52 : tyTag Tryz.prog 52 = none := by kernel_rfl
theorem tyY52 : tyBytes Tryz.prog 52 = 24 := by kernel_rfl
theorem tyZ52 : tyZero Tryz.prog 52 = some [.nl] := by kernel_rfl
theorem tyW52 : tyZeroT Tryz.prog 52 = some [.sl .any []] := by kernel_rfl
theorem tyS53 : tySize Tryz.prog 53 = 2 := by kernel_rfl
theorem tyA53 : tyAgg Tryz.prog 53 = some true := by kernel_rfl
theorem tyG53 : tyTag Tryz.prog 53 = none := by kernel_rfl
theorem tyY53 : tyBytes Tryz.prog 53 = 32 := by kernel_rfl
theorem tyZ53 : tyZero Tryz.prog 53 = some [.d (.i .i64 0), .nl] := by kernel_rfl
theorem tyW53 : tyZeroT Tryz.prog 53 = some [.i .i64 0, .sl .any []] := by kernel_rfl
theorem tyO53_0 : tyOff Tryz.prog 53 0 = some 0 := by kernel_rfl
theorem tyO53_1 : tyOff Tryz.prog 53 1 = some 1 := by kernel_rfl
theorem tyF53 : tyFlds Tryz.prog 53 = some [(0, 1), (1, 1)] := by kernel_rfl
theorem tyS54 : tySize Tryz.prog 54 = 2 := by kernel_rfl
theorem tyA54 : tyAgg Tryz.prog 54 = some true := by kernel_rfl
theorem tyG54 : tyTag Tryz.prog 54 = none := by kernel_rfl
theorem tyY54 : tyBytes Tryz.prog 54 = 32 := by kernel_rfl
theorem tyZ54 : tyZero Tryz.prog 54 = some [.d (.i .i64 0), .nl] := by kernel_rfl
theorem tyW54 : tyZeroT Tryz.prog 54 = some [.i .i64 0, .sl .any []] := by kernel_rfl
theorem tyO54_0 : tyOff Tryz.prog 54 0 = some 0 := by kernel_rfl
theorem tyO54_1 : tyOff Tryz.prog 54 1 = some 1 := by kernel_rfl
theorem tyF54 : tyFlds Tryz.prog 54 = some [(0, 1), (1, 1)] := by kernel_rfl
theorem tyS56 : tySize Tryz.prog 56 = 1 := by kernel_rfl
theorem tyA56 : tyAgg Tryz.prog 56 = some false := by kernel_rfl
theorem tyS57 : tySize Tryz.prog 57 = 3 := by kernel_rfl
theorem tyA57 : tyAgg Tryz.prog 57 = some true := by kernel_rfl
theorem tyG57 : tyTag Tryz.prog 57 = none := by kernel_rfl
theorem tyY57 : tyBytes Tryz.prog 57 = 48 := by kernel_rfl
theorem tyZ57 : tyZero Tryz.prog 57 = some [.d (.s ⟨#[]⟩), .d (.i .i64 0), .nl] := by kernel_rfl
theorem tyW57 : tyZeroT Tryz.prog 57 = some [.s ⟨#[]⟩, .i .i64 0, .sl .any []] := by kernel_rfl
theorem tyO57_0 : tyOff Tryz.prog 57 0 = some 0 := by kernel_rfl
theorem tyO57_1 : tyOff Tryz.prog 57 1 = some 1 := by kernel_rfl
theorem tyF57 : tyFlds Tryz.prog 57 = some [(0, 1), (1, 2)] := by kernel_rfl
theorem tyS58 : tySize Tryz.prog 58 = 3 := by kernel_rfl
theorem tyA58 : tyAgg Tryz.prog 58 = some true := by kernel_rfl
theorem tyL58 : elAnn Tryz.prog 58 = .any := by kernel_rfl
theorem tyG58 : tyTag Tryz.prog 58 = none := by kernel_rfl
theorem tyY58 : tyBytes Tryz.prog 58 = 48 := by kernel_rfl
theorem tyZ58 : tyZero Tryz.prog 58 = some [.d (.s ⟨#[]⟩), .d (.i .i64 0), .nl] := by kernel_rfl
theorem tyW58 : tyZeroT Tryz.prog 58 = some [.s ⟨#[]⟩, .i .i64 0, .sl .any []] := by kernel_rfl
theorem tyO58_0 : tyOff Tryz.prog 58 0 = some 0 := by kernel_rfl
theorem tyO58_1 : tyOff Tryz.prog 58 1 = some 1 := by kernel_rfl
theorem tyF58 : tyFlds Tryz.prog 58 = some [(0, 1), (1, 2)] := by kernel_rfl
theorem tyS59 : tySize Tryz.prog 59 = 1 := by kernel_rfl
theorem tyA59 : tyAgg Tryz.prog 59 = some false := by kernel_rfl
theorem tyG59 : tyTag Tryz.prog 59 = none := by kernel_rfl
theorem tyQ59 : tyPtr Tryz.prog 59 = some 61 := by kernel_rfl
theorem tyI59 : tyInt Tryz.prog 59 = none := by kernel_rfl
theorem tyT59 : tyStr Tryz.prog 59 = false := by kernel_rfl
theorem tyU59 : tyUns Tryz.prog 59 = false := by kernel_rfl
theorem tyZ59 : tyZero Tryz.prog 59 = some [.d (.raw (.pointer none))] := by kernel_rfl
theorem tyS60 : tySize Tryz.prog 60 = 3 := by kernel_rfl
theorem tyA60 : tyAgg Tryz.prog 60 = some true := by kernel_rfl
theorem tyG60 : tyTag Tryz.prog 60 = none := by kernel_rfl
theorem tyY60 : tyBytes Tryz.prog 60 = 32 := by kernel_rfl
theorem tyZ60 : tyZero Tryz.prog 60 = some [.d (.s ⟨#[]⟩), .d (.i .i64 0), .d (.b false)] := by kernel_rfl
theorem tyW60 : tyZeroT Tryz.prog 60 = some [.s ⟨#[]⟩, .i .i64 0, .b false] := by kernel_rfl
theorem tyO60_0 : tyOff Tryz.prog 60 0 = some 0 := by kernel_rfl
theorem tyO60_1 : tyOff Tryz.prog 60 1 = some 1 := by kernel_rfl
theorem tyO60_2 : tyOff Tryz.prog 60 2 = some 2 := by kernel_rfl
theorem tyF60 : tyFlds Tryz.prog 60 = some [(0, 1), (1, 1), (2, 1)] := by kernel_rfl
theorem tyS61 : tySize Tryz.prog 61 = 3 := by kernel_rfl
theorem tyA61 : tyAgg Tryz.prog 61 = some true := by kernel_rfl
theorem tyG61 : tyTag Tryz.prog 61 = none := by kernel_rfl
theorem tyY61 : tyBytes Tryz.prog 61 = 32 := by kernel_rfl
theorem tyZ61 : tyZero Tryz.prog 61 = some [.d (.s ⟨#[]⟩), .d (.i .i64 0), .d (.b false)] := by kernel_rfl
theorem tyW61 : tyZeroT Tryz.prog 61 = some [.s ⟨#[]⟩, .i .i64 0, .b false] := by kernel_rfl
theorem tyO61_0 : tyOff Tryz.prog 61 0 = some 0 := by kernel_rfl
theorem tyO61_1 : tyOff Tryz.prog 61 1 = some 1 := by kernel_rfl
theorem tyO61_2 : tyOff Tryz.prog 61 2 = some 2 := by kernel_rfl
theorem tyF61 : tyFlds Tryz.prog 61 = some [(0, 1), (1, 1), (2, 1)] := by kernel_rfl
theorem tyP61 : tyPlain Tryz.prog 61 = some [.s, .i, .b] := by kernel_rfl
theorem tyS62 : tySize Tryz.prog 62 = 1 := by kernel_rfl
theorem tyA62 : tyAgg Tryz.prog 62 = some false := by kernel_rfl
theorem tyS63 : tySize Tryz.prog 63 = 1 := by kernel_rfl
theorem tyA63 : tyAgg Tryz.prog 63 = some false := by kernel_rfl
theorem tyS64 : tySize Tryz.prog 64 = 1 := by kernel_rfl
theorem tyA64 : tyAgg Tryz.prog 64 = some false := by kernel_rfl
theorem tyS65 : tySize Tryz.prog 65 = 1 := by kernel_rfl
theorem tyA65 : tyAgg Tryz.prog 65 = some false := by kernel_rfl
theorem tyS66 : tySize Tryz.prog 66 = 1 := by kernel_rfl
theorem tyA66 : tyAgg Tryz.prog 66 = some false := by kernel_rfl
theorem tyS67 : tySize Tryz.prog 67 = 1 := by kernel_rfl
theorem tyA67 : tyAgg Tryz.prog 67 = some false := by kernel_rfl
theorem tyS68 : tySize Tryz.prog 68 = 1 := by kernel_rfl
theorem tyA68 : tyAgg Tryz.prog 68 = some false := by kernel_rfl
theorem tyG68 : tyTag Tryz.prog 68 = none := by kernel_rfl
theorem tyQ68 : tyPtr Tryz.prog 68 = some 98 := by kernel_rfl
theorem tyI68 : tyInt Tryz.prog 68 = none := by kernel_rfl
theorem tyT68 : tyStr Tryz.prog 68 = false := by kernel_rfl
theorem tyU68 : tyUns Tryz.prog 68 = false := by kernel_rfl
theorem tyZ68 : tyZero Tryz.prog 68 = some [.d (.raw (.pointer none))] := by kernel_rfl
theorem tyS69 : tySize Tryz.prog 69 = 1 := by kernel_rfl
theorem tyA69 : tyAgg Tryz.prog 69 = some false := by kernel_rfl
theorem tyS70 : tySize Tryz.prog 70 = 1 := by kernel_rfl
theorem tyA70 : tyAgg Tryz.prog 70 = some false := by kernel_rfl
theorem tyS71 : tySize Tryz.prog 71 = 1 := by kernel_rfl
theorem tyA71 : tyAgg Tryz.prog 71 = some false := by kernel_rfl
theorem tyS72 : tySize Tryz.prog 72 = 1 := by kernel_rfl
theorem tyA72 : tyAgg Tryz.prog 72 = some false := by kernel_rfl
theorem tyS73 : tySize Tryz.prog 73 = 1 := by kernel_rfl
theorem tyA73 : tyAgg Tryz.prog 73 = some false := by kernel_rfl
theorem tyS74 : tySize Tryz.prog 74 = 1 := by kernel_rfl
theorem tyA74 : tyAgg Tryz.prog 74 = some false := by kernel_rfl
theorem tyS75 : tySize Tryz.prog 75 = 1 := by kernel_rfl
theorem tyA75 : tyAgg Tryz.prog 75 = some false := by kernel_rfl
theorem tyS76 : tySize Tryz.prog 76 = 1 := by kernel_rfl
theorem tyA76 : tyAgg Tryz.prog 76 = some false := by kernel_rfl
theorem tyS77 : tySize Tryz.prog 77 = 1 := by kernel_rfl
theorem tyA77 : tyAgg Tryz.prog 77 = some false := by kernel_rfl
theorem tyS78 : tySize Tryz.prog 78 = 1 := by kernel_rfl
theorem tyA78 : tyAgg Tryz.prog 78 = some false := by kernel_rfl
theorem tyS79 : tySize Tryz.prog 79 = 1 := by kernel_rfl
theorem tyA79 : tyAgg Tryz.prog 79 = some false := by kernel_rfl
theorem tyS80 : tySize Tryz.prog 80 = 1 := by kernel_rfl
theorem tyA80 : tyAgg Tryz.prog 80 = some false := by kernel_rfl
theorem tyS81 : tySize Tryz.prog 81 = 1 := by kernel_rfl
theorem tyA81 : tyAgg Tryz.prog 81 = some false := by kernel_rfl
theorem tyS82 : tySize Tryz.prog 82 = 1 := by kernel_rfl
theorem tyA82 : tyAgg Tryz.prog 82 = some false := by kernel_rfl
theorem tyS83 : tySize Tryz.prog 83 = 2 := by kernel_rfl
theorem tyA83 : tyAgg Tryz.prog 83 = some true := by kernel_rfl
theorem tyG83 : tyTag Tryz.prog 83 = none := by kernel_rfl
theorem tyY83 : tyBytes Tryz.prog 83 = 40 := by kernel_rfl
theorem tyZ83 : tyZero Tryz.prog 83 = some [.d (.s ⟨#[]⟩), .nl] := by kernel_rfl
theorem tyW83 : tyZeroT Tryz.prog 83 = some [.s ⟨#[]⟩, .sl .any []] := by kernel_rfl
theorem tyO83_0 : tyOff Tryz.prog 83 0 = some 0 := by kernel_rfl
theorem tyO83_1 : tyOff Tryz.prog 83 1 = some 1 := by kernel_rfl
theorem tyF83 : tyFlds Tryz.prog 83 = some [(0, 1), (1, 1)] := by kernel_rfl
theorem tyS84 : tySize Tryz.prog 84 = 2 := by kernel_rfl
theorem tyA84 : tyAgg Tryz.prog 84 = some true := by kernel_rfl
theorem tyL84 : elAnn Tryz.prog 84 = .any := by kernel_rfl
theorem tyG84 : tyTag Tryz.prog 84 = none := by kernel_rfl
theorem tyY84 : tyBytes Tryz.prog 84 = 40 := by kernel_rfl
theorem tyZ84 : tyZero Tryz.prog 84 = some [.d (.s ⟨#[]⟩), .nl] := by kernel_rfl
theorem tyW84 : tyZeroT Tryz.prog 84 = some [.s ⟨#[]⟩, .sl .any []] := by kernel_rfl
theorem tyO84_0 : tyOff Tryz.prog 84 0 = some 0 := by kernel_rfl
theorem tyO84_1 : tyOff Tryz.prog 84 1 = some 1 := by kernel_rfl
theorem tyF84 : tyFlds Tryz.prog 84 = some [(0, 1), (1, 1)] := by kernel_rfl
theorem tyS85 : tySize Tryz.prog 85 = 1 := by kernel_rfl
theorem tyA85 : tyAgg Tryz.prog 85 = some false := by kernel_rfl
theorem tyE85 : tyElem Tryz.prog 85 = some 84 := by kernel_rfl
theorem tyI85 : tyInt Tryz.prog 85 = none := by kernel_rfl
theorem tyT85 : tyStr Tryz.prog 85 = false := by kernel_rfl
theorem tyG85 : tyTag Tryz.prog 85 = none := by kernel_rfl
theorem tyY85 : tyBytes Tryz.prog 85 = 24 := by kernel_rfl
theorem tyZ85 : tyZero Tryz.prog 85 = some [.nl] := by kernel_rfl
theorem tyW85 : tyZeroT Tryz.prog 85 = some [.sl .any []] := by kernel_rfl
theorem tyS86 : tySize Tryz.prog 86 = 3 := by kernel_rfl
theorem tyA86 : tyAgg Tryz.prog 86 = some true := by kernel_rfl
theorem tyG86 : tyTag Tryz.prog 86 = none := by kernel_rfl
theorem tyY86 : tyBytes Tryz.prog 86 = 32 := by kernel_rfl
theorem tyZ86 : tyZero Tryz.prog 86 = some [.d (.i .i64 0), .d (.i .i64 0), .d (.s ⟨#[]⟩)] := by kernel_rfl
theorem tyW86 : tyZeroT Tryz.prog 86 = some [.i .i64 0, .i .i64 0, .s ⟨#[]⟩] := by kernel_rfl
theorem tyO86_0 : tyOff Tryz.prog 86 0 = some 0 := by kernel_rfl
theorem tyO86_1 : tyOff Tryz.prog 86 1 = some 1 := by kernel_rfl
theorem tyO86_2 : tyOff Tryz.prog 86 2 = some 2 := by kernel_rfl
theorem tyF86 : tyFlds Tryz.prog 86 = some [(0, 1), (1, 1), (2, 1)] := by kernel_rfl
theorem tyS87 : tySize Tryz.prog 87 = 3 := by kernel_rfl
theorem tyA87 : tyAgg Tryz.prog 87 = some true := by kernel_rfl
theorem tyL87 : elAnn Tryz.prog 87 = .any := by kernel_rfl
theorem tyG87 : tyTag Tryz.prog 87 = none := by kernel_rfl
theorem tyY87 : tyBytes Tryz.prog 87 = 32 := by kernel_rfl
theorem tyZ87 : tyZero Tryz.prog 87 = some [.d (.i .i64 0), .d (.i .i64 0), .d (.s ⟨#[]⟩)] := by kernel_rfl
theorem tyW87 : tyZeroT Tryz.prog 87 = some [.i .i64 0, .i .i64 0, .s ⟨#[]⟩] := by kernel_rfl
theorem tyO87_0 : tyOff Tryz.prog 87 0 = some 0 := by kernel_rfl
theorem tyO87_1 : tyOff Tryz.prog 87 1 = some 1 := by kernel_rfl
theorem tyO87_2 : tyOff Tryz.prog 87 2 = some 2 := by kernel_rfl
theorem tyF87 : tyFlds Tryz.prog 87 = some [(0, 1), (1, 1), (2, 1)] := by kernel_rfl
theorem tyP87 : tyPlain Tryz.prog 87 = some [.i, .i, .s] := by kernel_rfl
theorem tyS89 : tySize Tryz.prog 89 = 1 := by kernel_rfl
theorem tyA89 : tyAgg Tryz.prog 89 = some false := by kernel_rfl
theorem tyS90 : tySize Tryz.prog 90 = 1 := by kernel_rfl
theorem tyA90 : tyAgg Tryz.prog 90 = some false := by kernel_rfl
theorem tyE90 : tyElem Tryz.prog 90 = some 87 := by kernel_rfl
theorem tyI90 : tyInt Tryz.prog 90 = none := by kernel_rfl
theorem tyT90 : tyStr Tryz.prog 90 = false := by kernel_rfl
theorem tyL90 : elAnn Tryz.prog 90 = .any := by kernel_rfl
theorem tyG90 : tyTag Tryz.prog 90 = none := by kernel_rfl
theorem tyY90 : tyBytes Tryz.prog 90 = 24 := by kernel_rfl
theorem tyZ90 : tyZero Tryz.prog 90 = some [.nl] := by kernel_rfl
theorem tyW90 : tyZeroT Tryz.prog 90 = some [.sl .any []] := by kernel_rfl
theorem tyS91 : tySize Tryz.prog 91 = 2 := by kernel_rfl
theorem tyA91 : tyAgg Tryz.prog 91 = some true := by kernel_rfl
theorem tyG91 : tyTag Tryz.prog 91 = none := by kernel_rfl
theorem tyY91 : tyBytes Tryz.prog 91 = 32 := by kernel_rfl
theorem tyZ91 : tyZero Tryz.prog 91 = some [.nl, .d (.i .i64 0)] := by kernel_rfl
theorem tyW91 : tyZeroT Tryz.prog 91 = some [.sl .any [], .i .i64 0] := by kernel_rfl
theorem tyO91_0 : tyOff Tryz.prog 91 0 = some 0 := by kernel_rfl
theorem tyO91_1 : tyOff Tryz.prog 91 1 = some 1 := by kernel_rfl
theorem tyF91 : tyFlds Tryz.prog 91 = some [(0, 1), (1, 1)] := by kernel_rfl
theorem tyS92 : tySize Tryz.prog 92 = 2 := by kernel_rfl
theorem tyA92 : tyAgg Tryz.prog 92 = some true := by kernel_rfl
theorem tyL92 : elAnn Tryz.prog 92 = .any := by kernel_rfl
theorem tyG92 : tyTag Tryz.prog 92 = none := by kernel_rfl
theorem tyY92 : tyBytes Tryz.prog 92 = 32 := by kernel_rfl
theorem tyZ92 : tyZero Tryz.prog 92 = some [.nl, .d (.i .i64 0)] := by kernel_rfl
theorem tyW92 : tyZeroT Tryz.prog 92 = some [.sl .any [], .i .i64 0] := by kernel_rfl
theorem tyO92_0 : tyOff Tryz.prog 92 0 = some 0 := by kernel_rfl
theorem tyO92_1 : tyOff Tryz.prog 92 1 = some 1 := by kernel_rfl
theorem tyF92 : tyFlds Tryz.prog 92 = some [(0, 1), (1, 1)] := by kernel_rfl
theorem tyS93 : tySize Tryz.prog 93 = 1 := by kernel_rfl
theorem tyA93 : tyAgg Tryz.prog 93 = some false := by kernel_rfl
theorem tyS94 : tySize Tryz.prog 94 = 1 := by kernel_rfl
theorem tyA94 : tyAgg Tryz.prog 94 = some false := by kernel_rfl
theorem tyS95 : tySize Tryz.prog 95 = 1 := by kernel_rfl
theorem tyA95 : tyAgg Tryz.prog 95 = some false := by kernel_rfl
theorem tyS96 : tySize Tryz.prog 96 = 1 := by kernel_rfl
theorem tyA96 : tyAgg Tryz.prog 96 = some false := by kernel_rfl
theorem tyS97 : tySize Tryz.prog 97 = 3 := by kernel_rfl
theorem tyA97 : tyAgg Tryz.prog 97 = some true := by kernel_rfl
theorem tyG97 : tyTag Tryz.prog 97 = none := by kernel_rfl
theorem tyY97 : tyBytes Tryz.prog 97 = 40 := by kernel_rfl
theorem tyZ97 : tyZero Tryz.prog 97 = some [.nl, .d (.i .i64 0), .d (.i .i64 0)] := by kernel_rfl
theorem tyW97 : tyZeroT Tryz.prog 97 = some [.sl .any [], .i .i64 0, .i .i64 0] := by kernel_rfl
theorem tyO97_0 : tyOff Tryz.prog 97 0 = some 0 := by kernel_rfl
theorem tyO97_1 : tyOff Tryz.prog 97 1 = some 1 := by kernel_rfl
theorem tyO97_2 : tyOff Tryz.prog 97 2 = some 2 := by kernel_rfl
theorem tyF97 : tyFlds Tryz.prog 97 = some [(0, 1), (1, 1), (2, 1)] := by kernel_rfl
theorem tyS98 : tySize Tryz.prog 98 = 3 := by kernel_rfl
theorem tyA98 : tyAgg Tryz.prog 98 = some true := by kernel_rfl
theorem tyG98 : tyTag Tryz.prog 98 = none := by kernel_rfl
theorem tyY98 : tyBytes Tryz.prog 98 = 40 := by kernel_rfl
theorem tyZ98 : tyZero Tryz.prog 98 = some [.nl, .d (.i .i64 0), .d (.i .i64 0)] := by kernel_rfl
theorem tyW98 : tyZeroT Tryz.prog 98 = some [.sl .any [], .i .i64 0, .i .i64 0] := by kernel_rfl
theorem tyO98_0 : tyOff Tryz.prog 98 0 = some 0 := by kernel_rfl
theorem tyO98_1 : tyOff Tryz.prog 98 1 = some 1 := by kernel_rfl
theorem tyO98_2 : tyOff Tryz.prog 98 2 = some 2 := by kernel_rfl
theorem tyF98 : tyFlds Tryz.prog 98 = some [(0, 1), (1, 1), (2, 1)] := by kernel_rfl
theorem tyS99 : tySize Tryz.prog 99 = 1 := by kernel_rfl
theorem tyA99 : tyAgg Tryz.prog 99 = some false := by kernel_rfl
theorem tyS100 : tySize Tryz.prog 100 = 1 := by kernel_rfl
theorem tyA100 : tyAgg Tryz.prog 100 = some false := by kernel_rfl
theorem tyS101 : tySize Tryz.prog 101 = 1 := by kernel_rfl
theorem tyA101 : tyAgg Tryz.prog 101 = some false := by kernel_rfl
theorem tyE101 : tyElem Tryz.prog 101 = some 22 := by kernel_rfl
theorem tyI101 : tyInt Tryz.prog 101 = none := by kernel_rfl
theorem tyT101 : tyStr Tryz.prog 101 = false := by kernel_rfl
theorem tyG101 : tyTag Tryz.prog 101 = none := by kernel_rfl
theorem tyY101 : tyBytes Tryz.prog 101 = 24 := by kernel_rfl
theorem tyZ101 : tyZero Tryz.prog 101 = some [.nl] := by kernel_rfl
theorem tyW101 : tyZeroT Tryz.prog 101 = some [.sl .any []] := by kernel_rfl
theorem tyS102 : tySize Tryz.prog 102 = 1 := by kernel_rfl
theorem tyA102 : tyAgg Tryz.prog 102 = some false := by kernel_rfl
theorem tyS103 : tySize Tryz.prog 103 = 1 := by kernel_rfl
theorem tyA103 : tyAgg Tryz.prog 103 = some false := by kernel_rfl
theorem tyS104 : tySize Tryz.prog 104 = 1 := by kernel_rfl
theorem tyA104 : tyAgg Tryz.prog 104 = some false := by kernel_rfl
theorem tyG104 : tyTag Tryz.prog 104 = none := by kernel_rfl
theorem tyQ104 : tyPtr Tryz.prog 104 = some 106 := by kernel_rfl
theorem tyI104 : tyInt Tryz.prog 104 = none := by kernel_rfl
theorem tyT104 : tyStr Tryz.prog 104 = false := by kernel_rfl
theorem tyU104 : tyUns Tryz.prog 104 = false := by kernel_rfl
theorem tyZ104 : tyZero Tryz.prog 104 = some [.d (.raw (.pointer none))] := by kernel_rfl
theorem tyS105 : tySize Tryz.prog 105 = 2 := by kernel_rfl
theorem tyA105 : tyAgg Tryz.prog 105 = some true := by kernel_rfl
theorem tyG105 : tyTag Tryz.prog 105 = none := by kernel_rfl
theorem tyY105 : tyBytes Tryz.prog 105 = 32 := by kernel_rfl
theorem tyZ105 : tyZero Tryz.prog 105 = some [.d (.raw (.pointer none)), .nl] := by kernel_rfl
theorem tyO105_0 : tyOff Tryz.prog 105 0 = some 0 := by kernel_rfl
theorem tyO105_1 : tyOff Tryz.prog 105 1 = some 1 := by kernel_rfl
theorem tyF105 : tyFlds Tryz.prog 105 = some [(0, 1), (1, 1)] := by kernel_rfl
theorem tyS106 : tySize Tryz.prog 106 = 2 := by kernel_rfl
theorem tyA106 : tyAgg Tryz.prog 106 = some true := by kernel_rfl
theorem tyG106 : tyTag Tryz.prog 106 = some 106 := by kernel_rfl
theorem tyV106 : liesAt Tryz.prog Tryz.prog.depth 106 (2 / Tryz.prog.cellsOf 106) 0 106 1 = true := by kernel_rfl
theorem tyY106 : tyBytes Tryz.prog 106 = 32 := by kernel_rfl
theorem tyZ106 : tyZero Tryz.prog 106 = some [.d (.raw (.pointer none)), .nl] := by kernel_rfl
theorem tyO106_0 : tyOff Tryz.prog 106 0 = some 0 := by kernel_rfl
theorem tyO106_1 : tyOff Tryz.prog 106 1 = some 1 := by kernel_rfl
theorem tyF106 : tyFlds Tryz.prog 106 = some [(0, 1), (1, 1)] := by kernel_rfl
theorem tyS110 : tySize Tryz.prog 110 = 1 := by kernel_rfl
theorem tyA110 : tyAgg Tryz.prog 110 = some false := by kernel_rfl
theorem tyS111 : tySize Tryz.prog 111 = 1 := by kernel_rfl
theorem tyA111 : tyAgg Tryz.prog 111 = some false := by kernel_rfl
theorem tyS112 : tySize Tryz.prog 112 = 1 := by kernel_rfl
theorem tyA112 : tyAgg Tryz.prog 112 = some false := by kernel_rfl
theorem tyS113 : tySize Tryz.prog 113 = 1 := by kernel_rfl
theorem tyA113 : tyAgg Tryz.prog 113 = some false := by kernel_rfl
theorem tyS114 : tySize Tryz.prog 114 = 1 := by kernel_rfl
theorem tyA114 : tyAgg Tryz.prog 114 = some false := by kernel_rfl
theorem tyS115 : tySize Tryz.prog 115 = 1 := by kernel_rfl
theorem tyA115 : tyAgg Tryz.prog 115 = some false := by kernel_rfl
theorem tyS116 : tySize Tryz.prog 116 = 1 := by kernel_rfl
theorem tyA116 : tyAgg Tryz.prog 116 = some false := by kernel_rfl
theorem tyS117 : tySize Tryz.prog 117 = 1 := by kernel_rfl
theorem tyA117 : tyAgg Tryz.prog 117 = some false := by kernel_rfl
theorem tyS118 : tySize Tryz.prog 118 = 1 := by kernel_rfl
theorem tyA118 : tyAgg Tryz.prog 118 = some false := by kernel_rfl
theorem tyS119 : tySize Tryz.prog 119 = 1 := by kernel_rfl
theorem tyA119 : tyAgg Tryz.prog 119 = some false := by kernel_rfl
theorem tyS120 : tySize Tryz.prog 120 = 1 := by kernel_rfl
theorem tyA120 : tyAgg Tryz.prog 120 = some false := by kernel_rfl
theorem tyS121 : tySize Tryz.prog 121 = 1 := by kernel_rfl
theorem tyA121 : tyAgg Tryz.prog 121 = some false := by kernel_rfl
theorem tyS122 : tySize Tryz.prog 122 = 1 := by kernel_rfl
theorem tyA122 : tyAgg Tryz.prog 122 = some false := by kernel_rfl
theorem tyS123 : tySize Tryz.prog 123 = 1 := by kernel_rfl
theorem tyA123 : tyAgg Tryz.prog 123 = some false := by kernel_rfl
theorem tyS124 : tySize Tryz.prog 124 = 1 := by kernel_rfl
theorem tyA124 : tyAgg Tryz.prog 124 = some false := by kernel_rfl
theorem tyG124 : tyTag Tryz.prog 124 = none := by kernel_rfl
theorem tyI124 : tyInt Tryz.prog 124 = some .u64 := by kernel_rfl
theorem tyY124 : tyBytes Tryz.prog 124 = 8 := by kernel_rfl
theorem tyZ124 : tyZero Tryz.prog 124 = some [.d (.i .u64 0)] := by kernel_rfl
theorem tyW124 : tyZeroT Tryz.prog 124 = some [.i .u64 0] := by kernel_rfl
theorem tyS125 : tySize Tryz.prog 125 = 1 := by kernel_rfl
theorem tyA125 : tyAgg Tryz.prog 125 = some false := by kernel_rfl
theorem tyS126 : tySize Tryz.prog 126 = 1 := by kernel_rfl
theorem tyA126 : tyAgg Tryz.prog 126 = some false := by kernel_rfl
theorem tyG126 : tyTag Tryz.prog 126 = none := by kernel_rfl
theorem tyI126 : tyInt Tryz.prog 126 = some .u64 := by kernel_rfl
theorem tyY126 : tyBytes Tryz.prog 126 = 8 := by kernel_rfl
theorem tyZ126 : tyZero Tryz.prog 126 = some [.d (.i .u64 0)] := by kernel_rfl
theorem tyW126 : tyZeroT Tryz.prog 126 = some [.i .u64 0] := by kernel_rfl
theorem tyS127 : tySize Tryz.prog 127 = 1 := by kernel_rfl
theorem tyA127 : tyAgg Tryz.prog 127 = some false := by kernel_rfl
theorem tyS128 : tySize Tryz.prog 128 = 1 := by kernel_rfl
theorem tyA128 : tyAgg Tryz.prog 128 = some false := by kernel_rfl
theorem tyS129 : tySize Tryz.prog 129 = 1 := by kernel_rfl
theorem tyA129 : tyAgg Tryz.prog 129 = some false := by kernel_rfl
theorem tyS130 : tySize Tryz.prog 130 = 1 := by kernel_rfl
theorem tyA130 : tyAgg Tryz.prog 130 = some false := by kernel_rfl
theorem tyS131 : tySize Tryz.prog 131 = 1 := by kernel_rfl
theorem tyA131 : tyAgg Tryz.prog 131 = some false := by kernel_rfl
theorem tyS132 : tySize Tryz.prog 132 = 1 := by kernel_rfl
theorem tyA132 : tyAgg Tryz.prog 132 = some false := by kernel_rfl
theorem tyS133 : tySize Tryz.prog 133 = 1 := by kernel_rfl
theorem tyA133 : tyAgg Tryz.prog 133 = some false := by kernel_rfl
theorem tyS134 : tySize Tryz.prog 134 = 1 := by kernel_rfl
theorem tyA134 : tyAgg Tryz.prog 134 = some false := by kernel_rfl
theorem tyG134 : tyTag Tryz.prog 134 = none := by kernel_rfl
theorem tyQ134 : tyPtr Tryz.prog 134 = some 5 := by kernel_rfl
theorem tyI134 : tyInt Tryz.prog 134 = none := by kernel_rfl
theorem tyT134 : tyStr Tryz.prog 134 = false := by kernel_rfl
theorem tyU134 : tyUns Tryz.prog 134 = false := by kernel_rfl
theorem tyZ134 : tyZero Tryz.prog 134 = some [.d (.raw (.pointer none))] := by kernel_rfl
theorem tyS135 : tySize Tryz.prog 135 = 1 := by kernel_rfl
theorem tyA135 : tyAgg Tryz.prog 135 = some false := by kernel_rfl
theorem tyS136 : tySize Tryz.prog 136 = 1 := by kernel_rfl
theorem tyA136 : tyAgg Tryz.prog 136 = some false := by kernel_rfl
theorem tyS137 : tySize Tryz.prog 137 = 1 := by kernel_rfl
theorem tyA137 : tyAgg Tryz.prog 137 = some false := by kernel_rfl
theorem tyS138 : tySize Tryz.prog 138 = 1 := by kernel_rfl
theorem tyA138 : tyAgg Tryz.prog 138 = some false := by kernel_rfl
theorem tyS139 : tySize Tryz.prog 139 = 1 := by kernel_rfl
theorem tyA139 : tyAgg Tryz.prog 139 = some false := by kernel_rfl
theorem tyS140 : tySize Tryz.prog 140 = 1 := by kernel_rfl
theorem tyA140 : tyAgg Tryz.prog 140 = some false := by kernel_rfl
theorem tyS141 : tySize Tryz.prog 141 = 1 := by kernel_rfl
theorem tyA141 : tyAgg Tryz.prog 141 = some false := by kernel_rfl
theorem tyS142 : tySize Tryz.prog 142 = 1 := by kernel_rfl
theorem tyA142 : tyAgg Tryz.prog 142 = some false := by kernel_rfl
theorem tyE142 : tyElem Tryz.prog 142 = some 90 := by kernel_rfl
theorem tyI142 : tyInt Tryz.prog 142 = none := by kernel_rfl
theorem tyT142 : tyStr Tryz.prog 142 = false := by kernel_rfl
theorem tyG142 : tyTag Tryz.prog 142 = none := by kernel_rfl
theorem tyY142 : tyBytes Tryz.prog 142 = 24 := by kernel_rfl
theorem tyZ142 : tyZero Tryz.prog 142 = some [.nl] := by kernel_rfl
theorem tyW142 : tyZeroT Tryz.prog 142 = some [.sl .any []] := by kernel_rfl
theorem tyS143 : tySize Tryz.prog 143 = 1 := by kernel_rfl
theorem tyA143 : tyAgg Tryz.prog 143 = some false := by kernel_rfl
theorem tyS144 : tySize Tryz.prog 144 = 1 := by kernel_rfl
theorem tyA144 : tyAgg Tryz.prog 144 = some false := by kernel_rfl
theorem tyS145 : tySize Tryz.prog 145 = 1 := by kernel_rfl
theorem tyA145 : tyAgg Tryz.prog 145 = some false := by kernel_rfl
theorem tyS146 : tySize Tryz.prog 146 = 1 := by kernel_rfl
theorem tyA146 : tyAgg Tryz.prog 146 = some false := by kernel_rfl
theorem tyE146 : tyElem Tryz.prog 146 = some 3 := by kernel_rfl
theorem tyI146 : tyInt Tryz.prog 146 = none := by kernel_rfl
theorem tyT146 : tyStr Tryz.prog 146 = false := by kernel_rfl
theorem tyG146 : tyTag Tryz.prog 146 = none := by kernel_rfl
theorem tyY146 : tyBytes Tryz.prog 146 = 24 := by kernel_rfl
theorem tyZ146 : tyZero Tryz.prog 146 = some [.nl] := by kernel_rfl
theorem tyW146 : tyZeroT Tryz.prog 146 = some [.sl .any []] := by kernel_rfl
theorem tyS147 : tySize Tryz.prog 147 = 1 := by kernel_rfl
theorem tyA147 : tyAgg Tryz.prog 147 = some false := by kernel_rfl
theorem tyU147 : tyUns Tryz.prog 147 = true := by kernel_rfl
theorem tyI147 : tyInt Tryz.prog 147 = none := by kernel_rfl
theorem tyT147 : tyStr Tryz.prog 147 = false := by kernel_rfl
theorem tyQ147 : tyPtr Tryz.prog 147 = none := by kernel_rfl
theorem tyS148 : tySize Tryz.prog 148 = 1 := by kernel_rfl
theorem tyA148 : tyAgg Tryz.prog 148 = some false := by kernel_rfl
theorem tyS149 : tySize Tryz.prog 149 = 1 := by kernel_rfl
theorem tyA149 : tyAgg Tryz.prog 149 = some false := by kernel_rfl
theorem tyS150 : tySize Tryz.prog 150 = 1 := by kernel_rfl
theorem tyA150 : tyAgg Tryz.prog 150 = some false := by kernel_rfl
theorem tyS151 : tySize Tryz.prog 151 = 1 := by kernel_rfl
theorem tyA151 : tyAgg Tryz.prog 151 = some false := by kernel_rfl
theorem tyS152 : tySize Tryz.prog 152 = 1 := by kernel_rfl
theorem tyA152 : tyAgg Tryz.prog 152 = some false := by kernel_rfl
theorem tyS153 : tySize Tryz.prog 153 = 1 := by kernel_rfl
theorem tyA153 : tyAgg Tryz.prog 153 = some false := by kernel_rfl
theorem tyS154 : tySize Tryz.prog 154 = 1 := by kernel_rfl
theorem tyA154 : tyAgg Tryz.prog 154 = some false := by kernel_rfl
theorem tyS155 : tySize Tryz.prog 155 = 1 := by kernel_rfl
theorem tyA155 : tyAgg Tryz.prog 155 = some false := by kernel_rfl
theorem tyS156 : tySize Tryz.prog 156 = 1 := by kernel_rfl
theorem tyA156 : tyAgg Tryz.prog 156 = some false := by kernel_rfl
theorem tyS157 : tySize Tryz.prog 157 = 1 := by kernel_rfl
theorem tyA157 : tyAgg Tryz.prog 157 = some false := by kernel_rfl
theorem tyS158 : tySize Tryz.prog 158 = 1 := by kernel_rfl
theorem tyA158 : tyAgg Tryz.prog 158 = some false := by kernel_rfl
theorem tyS159 : tySize Tryz.prog 159 = 1 := by kernel_rfl
theorem tyA159 : tyAgg Tryz.prog 159 = some false := by kernel_rfl
theorem tyG159 : tyTag Tryz.prog 159 = none := by kernel_rfl
theorem tyI159 : tyInt Tryz.prog 159 = some .i64 := by kernel_rfl
theorem tyY159 : tyBytes Tryz.prog 159 = 8 := by kernel_rfl
theorem tyZ159 : tyZero Tryz.prog 159 = some [.d (.i .i64 0)] := by kernel_rfl
theorem tyW159 : tyZeroT Tryz.prog 159 = some [.i .i64 0] := by kernel_rfl
theorem tyS161 : tySize Tryz.prog 161 = 1 := by kernel_rfl
theorem tyA161 : tyAgg Tryz.prog 161 = some false := by kernel_rfl
theorem tyS162 : tySize Tryz.prog 162 = 1 := by kernel_rfl
theorem tyA162 : tyAgg Tryz.prog 162 = some false := by kernel_rfl
theorem tyS163 : tySize Tryz.prog 163 = 1 := by kernel_rfl
theorem tyA163 : tyAgg Tryz.prog 163 = some false := by kernel_rfl
theorem tyS164 : tySize Tryz.prog 164 = 1 := by kernel_rfl
theorem tyA164 : tyAgg Tryz.prog 164 = some false := by kernel_rfl
theorem tyS166 : tySize Tryz.prog 166 = 1 := by kernel_rfl
theorem tyA166 : tyAgg Tryz.prog 166 = some false := by kernel_rfl
theorem tyS167 : tySize Tryz.prog 167 = 1 := by kernel_rfl
theorem tyA167 : tyAgg Tryz.prog 167 = some false := by kernel_rfl
theorem tyS168 : tySize Tryz.prog 168 = 1 := by kernel_rfl
theorem tyA168 : tyAgg Tryz.prog 168 = some false := by kernel_rfl
theorem tyS169 : tySize Tryz.prog 169 = 1 := by kernel_rfl
theorem tyA169 : tyAgg Tryz.prog 169 = some false := by kernel_rfl
theorem tyS170 : tySize Tryz.prog 170 = 1 := by kernel_rfl
theorem tyA170 : tyAgg Tryz.prog 170 = some false := by kernel_rfl
theorem tyS171 : tySize Tryz.prog 171 = 1 := by kernel_rfl
theorem tyA171 : tyAgg Tryz.prog 171 = some false := by kernel_rfl
theorem tyS172 : tySize Tryz.prog 172 = 1 := by kernel_rfl
theorem tyA172 : tyAgg Tryz.prog 172 = some false := by kernel_rfl
theorem tyG172 : tyTag Tryz.prog 172 = none := by kernel_rfl
theorem tyI172 : tyInt Tryz.prog 172 = some .u64 := by kernel_rfl
theorem tyY172 : tyBytes Tryz.prog 172 = 8 := by kernel_rfl
theorem tyZ172 : tyZero Tryz.prog 172 = some [.d (.i .u64 0)] := by kernel_rfl
theorem tyW172 : tyZeroT Tryz.prog 172 = some [.i .u64 0] := by kernel_rfl
theorem tyS173 : tySize Tryz.prog 173 = 1 := by kernel_rfl
theorem tyA173 : tyAgg Tryz.prog 173 = some false := by kernel_rfl
theorem tyS174 : tySize Tryz.prog 174 = 1 := by kernel_rfl
theorem tyA174 : tyAgg Tryz.prog 174 = some false := by kernel_rfl
theorem tyS175 : tySize Tryz.prog 175 = 1 := by kernel_rfl
theorem tyA175 : tyAgg Tryz.prog 175 = some false := by kernel_rfl
theorem tyS176 : tySize Tryz.prog 176 = 1 := by kernel_rfl
theorem tyA176 : tyAgg Tryz.prog 176 = some false := by kernel_rfl
theorem tyG176 : tyTag Tryz.prog 176 = none := by kernel_rfl
theorem tyQ176 : tyPtr Tryz.prog 176 = some 3 := by kernel_rfl
theorem tyI176 : tyInt Tryz.prog 176 = none := by kernel_rfl
theorem tyT176 : tyStr Tryz.prog 176 = false := by kernel_rfl
theorem tyU176 : tyUns Tryz.prog 176 = false := by kernel_rfl
theorem tyZ176 : tyZero Tryz.prog 176 = some [.d (.raw (.pointer none))] := by kernel_rfl
theorem tyS177 : tySize Tryz.prog 177 = 1 := by kernel_rfl
theorem tyA177 : tyAgg Tryz.prog 177 = some false := by kernel_rfl
theorem tyS178 : tySize Tryz.prog 178 = 1 := by kernel_rfl
theorem tyA178 : tyAgg Tryz.prog 178 = some false := by kernel_rfl
theorem tyS179 : tySize Tryz.prog 179 = 1 := by kernel_rfl
theorem tyA179 : tyAgg Tryz.prog 179 = some false := by kernel_rfl
theorem tyG179 : tyTag Tryz.prog 179 = none := by kernel_rfl
theorem tyQ179 : tyPtr Tryz.prog 179 = some 172 := by kernel_rfl
theorem tyI179 : tyInt Tryz.prog 179 = none := by kernel_rfl
theorem tyT179 : tyStr Tryz.prog 179 = false := by kernel_rfl
theorem tyU179 : tyUns Tryz.prog 179 = false := by kernel_rfl
theorem tyZ179 : tyZero Tryz.prog 179 = some [.d (.raw (.pointer none))] := by kernel_rfl
theorem tyS180 : tySize Tryz.prog 180 = 1 := by kernel_rfl
theorem tyA180 : tyAgg Tryz.prog 180 = some false := by kernel_rfl
theorem tyS181 : tySize Tryz.prog 181 = 4 := by kernel_rfl
theorem tyA181 : tyAgg Tryz.prog 181 = some true := by kernel_rfl
theorem tyG181 : tyTag Tryz.prog 181 = none := by kernel_rfl
theorem tyY181 : tyBytes Tryz.prog 181 = 40 := by kernel_rfl
theorem tyZ181 : tyZero Tryz.prog 181 = some [.d (.raw (.pointer none)), .d (.raw (.pointer none)), .d (.raw (.pointer none)), .d (.s ⟨#[]⟩)] := by kernel_rfl
theorem tyO181_0 : tyOff Tryz.prog 181 0 = some 0 := by kernel_rfl
theorem tyO181_1 : tyOff Tryz.prog 181 1 = some 1 := by kernel_rfl
theorem tyO181_2 : tyOff Tryz.prog 181 2 = some 2 := by kernel_rfl
theorem tyO181_3 : tyOff Tryz.prog 181 3 = some 3 := by kernel_rfl
theorem tyF181 : tyFlds Tryz.prog 181 = some [(0, 1), (1, 1), (2, 1), (3, 1)] := by kernel_rfl
theorem tyS182 : tySize Tryz.prog 182 = 4 := by kernel_rfl
theorem tyA182 : tyAgg Tryz.prog 182 = some true := by kernel_rfl
theorem tyG182 : tyTag Tryz.prog 182 = none := by kernel_rfl
theorem tyY182 : tyBytes Tryz.prog 182 = 40 := by kernel_rfl
theorem tyZ182 : tyZero Tryz.prog 182 = some [.d (.raw (.pointer none)), .d (.raw (.pointer none)), .d (.raw (.pointer none)), .d (.s ⟨#[]⟩)] := by kernel_rfl
theorem tyO182_0 : tyOff Tryz.prog 182 0 = some 0 := by kernel_rfl
theorem tyO182_1 : tyOff Tryz.prog 182 1 = some 1 := by kernel_rfl
theorem tyO182_2 : tyOff Tryz.prog 182 2 = some 2 := by kernel_rfl
theorem tyO182_3 : tyOff Tryz.prog 182 3 = some 3 := by kernel_rfl
theorem tyF182 : tyFlds Tryz.prog 182 = some [(0, 1), (1, 1), (2, 1), (3, 1)] := by kernel_rfl
theorem tyS183 : tySize Tryz.prog 183 = 0 := by kernel_rfl
theorem tyA183 : tyAgg Tryz.prog 183 = some true := by kernel_rfl
theorem tyG183 : tyTag Tryz.prog 183 = none := by kernel_rfl
theorem tyZ183 : tyZero Tryz.prog 183 = some [] := by kernel_rfl
theorem tyW183 : tyZeroT Tryz.prog 183 = some [] := by kernel_rfl
theorem tyS184 : tySize Tryz.prog 184 = 0 := by kernel_rfl
theorem tyA184 : tyAgg Tryz.prog 184 = some true := by kernel_rfl
theorem tyG184 : tyTag Tryz.prog 184 = none := by kernel_rfl
theorem tyY184 : tyBytes Tryz.prog 184 = 0 := by kernel_rfl
theorem tyZ184 : tyZero Tryz.prog 184 = some [] := by kernel_rfl
theorem tyW184 : tyZeroT Tryz.prog 184 = some [] := by kernel_rfl
theorem tyF184 : tyFlds Tryz.prog 184 = some [(0, 0)] := by kernel_rfl
theorem tyS185 : tySize Tryz.prog 185 = 0 := by kernel_rfl
theorem tyA185 : tyAgg Tryz.prog 185 = some true := by kernel_rfl
theorem tyG185 : tyTag Tryz.prog 185 = none := by kernel_rfl
theorem tyY185 : tyBytes Tryz.prog 185 = 0 := by kernel_rfl
theorem tyZ185 : tyZero Tryz.prog 185 = some [] := by kernel_rfl
theorem tyW185 : tyZeroT Tryz.prog 185 = some [] := by kernel_rfl
theorem tyF185 : tyFlds Tryz.prog 185 = some [(0, 0)] := by kernel_rfl
theorem tyS186 : tySize Tryz.prog 186 = 1 := by kernel_rfl
theorem tyA186 : tyAgg Tryz.prog 186 = some false := by kernel_rfl
theorem tyS187 : tySize Tryz.prog 187 = 1 := by kernel_rfl
theorem tyA187 : tyAgg Tryz.prog 187 = some false := by kernel_rfl
theorem tyG187 : tyTag Tryz.prog 187 = none := by kernel_rfl
theorem tyI187 : tyInt Tryz.prog 187 = some .u8 := by kernel_rfl
theorem tyY187 : tyBytes Tryz.prog 187 = 1 := by kernel_rfl
theorem tyZ187 : tyZero Tryz.prog 187 = some [.d (.i .u8 0)] := by kernel_rfl
theorem tyW187 : tyZeroT Tryz.prog 187 = some [.i .u8 0] := by kernel_rfl
theorem tyS188 : tySize Tryz.prog 188 = 1 := by kernel_rfl
theorem tyA188 : tyAgg Tryz.prog 188 = some false := by kernel_rfl
theorem tyG188 : tyTag Tryz.prog 188 = none := by kernel_rfl
theorem tyI188 : tyInt Tryz.prog 188 = some .u8 := by kernel_rfl
theorem tyY188 : tyBytes Tryz.prog 188 = 1 := by kernel_rfl
theorem tyZ188 : tyZero Tryz.prog 188 = some [.d (.i .u8 0)] := by kernel_rfl
theorem tyW188 : tyZeroT Tryz.prog 188 = some [.i .u8 0] := by kernel_rfl
theorem tyS189 : tySize Tryz.prog 189 = 1 := by kernel_rfl
theorem tyA189 : tyAgg Tryz.prog 189 = some false := by kernel_rfl
theorem tyS190 : tySize Tryz.prog 190 = 1 := by kernel_rfl
theorem tyA190 : tyAgg Tryz.prog 190 = some false := by kernel_rfl
theorem tyG190 : tyTag Tryz.prog 190 = none := by kernel_rfl
theorem tyI190 : tyInt Tryz.prog 190 = some .i32 := by kernel_rfl
theorem tyY190 : tyBytes Tryz.prog 190 = 4 := by kernel_rfl
theorem tyZ190 : tyZero Tryz.prog 190 = some [.d (.i .i32 0)] := by kernel_rfl
theorem tyW190 : tyZeroT Tryz.prog 190 = some [.i .i32 0] := by kernel_rfl
theorem tyS191 : tySize Tryz.prog 191 = 1 := by kernel_rfl
theorem tyA191 : tyAgg Tryz.prog 191 = some false := by kernel_rfl
theorem tyG191 : tyTag Tryz.prog 191 = none := by kernel_rfl
theorem tyI191 : tyInt Tryz.prog 191 = some .i32 := by kernel_rfl
theorem tyY191 : tyBytes Tryz.prog 191 = 4 := by kernel_rfl
theorem tyZ191 : tyZero Tryz.prog 191 = some [.d (.i .i32 0)] := by kernel_rfl
theorem tyW191 : tyZeroT Tryz.prog 191 = some [.i .i32 0] := by kernel_rfl
theorem tyS192 : tySize Tryz.prog 192 = 11 := by kernel_rfl
theorem tyA192 : tyAgg Tryz.prog 192 = some true := by kernel_rfl
theorem tyG192 : tyTag Tryz.prog 192 = none := by kernel_rfl
theorem tyY192 : tyBytes Tryz.prog 192 = 48 := by kernel_rfl
theorem tyZ192 : tyZero Tryz.prog 192 = some [.d (.i .u64 0), .d (.i .u64 0), .d (.i .u32 0), .d (.i .u8 0), .d (.i .u8 0), .d (.i .u8 0), .d (.i .u8 0), .unk, .d (.raw (.pointer none)), .d (.i .i32 0), .d (.i .i32 0)] := by kernel_rfl
theorem tyO192_0 : tyOff Tryz.prog 192 0 = some 0 := by kernel_rfl
theorem tyO192_1 : tyOff Tryz.prog 192 1 = some 1 := by kernel_rfl
theorem tyO192_2 : tyOff Tryz.prog 192 2 = some 2 := by kernel_rfl
theorem tyO192_3 : tyOff Tryz.prog 192 3 = some 3 := by kernel_rfl
theorem tyO192_4 : tyOff Tryz.prog 192 4 = some 4 := by kernel_rfl
theorem tyO192_5 : tyOff Tryz.prog 192 5 = some 5 := by kernel_rfl
theorem tyO192_6 : tyOff Tryz.prog 192 6 = some 6 := by kernel_rfl
theorem tyO192_7 : tyOff Tryz.prog 192 7 = some 7 := by kernel_rfl
theorem tyO192_8 : tyOff Tryz.prog 192 8 = some 8 := by kernel_rfl
theorem tyO192_9 : tyOff Tryz.prog 192 9 = some 9 := by kernel_rfl
theorem tyO192_10 : tyOff Tryz.prog 192 10 = some 10 := by kernel_rfl
theorem tyF192 : tyFlds Tryz.prog 192 = some [(0, 1), (1, 1), (2, 1), (3, 1), (4, 1), (5, 1), (6, 1), (7, 1), (8, 1), (9, 1), (10, 1)] := by kernel_rfl
theorem tyS193 : tySize Tryz.prog 193 = 11 := by kernel_rfl
theorem tyA193 : tyAgg Tryz.prog 193 = some true := by kernel_rfl
theorem tyG193 : tyTag Tryz.prog 193 = none := by kernel_rfl
theorem tyY193 : tyBytes Tryz.prog 193 = 48 := by kernel_rfl
theorem tyZ193 : tyZero Tryz.prog 193 = some [.d (.i .u64 0), .d (.i .u64 0), .d (.i .u32 0), .d (.i .u8 0), .d (.i .u8 0), .d (.i .u8 0), .d (.i .u8 0), .unk, .d (.raw (.pointer none)), .d (.i .i32 0), .d (.i .i32 0)] := by kernel_rfl
theorem tyO193_0 : tyOff Tryz.prog 193 0 = some 0 := by kernel_rfl
theorem tyO193_1 : tyOff Tryz.prog 193 1 = some 1 := by kernel_rfl
theorem tyO193_2 : tyOff Tryz.prog 193 2 = some 2 := by kernel_rfl
theorem tyO193_3 : tyOff Tryz.prog 193 3 = some 3 := by kernel_rfl
theorem tyO193_4 : tyOff Tryz.prog 193 4 = some 4 := by kernel_rfl
theorem tyO193_5 : tyOff Tryz.prog 193 5 = some 5 := by kernel_rfl
theorem tyO193_6 : tyOff Tryz.prog 193 6 = some 6 := by kernel_rfl
theorem tyO193_7 : tyOff Tryz.prog 193 7 = some 7 := by kernel_rfl
theorem tyO193_8 : tyOff Tryz.prog 193 8 = some 8 := by kernel_rfl
theorem tyO193_9 : tyOff Tryz.prog 193 9 = some 9 := by kernel_rfl
theorem tyO193_10 : tyOff Tryz.prog 193 10 = some 10 := by kernel_rfl
theorem tyF193 : tyFlds Tryz.prog 193 = some [(0, 1), (1, 1), (2, 1), (3, 1), (4, 1), (5, 1), (6, 1), (7, 1), (8, 1), (9, 1), (10, 1)] := by kernel_rfl
theorem tyS194 : tySize Tryz.prog 194 = 1 := by kernel_rfl
theorem tyA194 : tyAgg Tryz.prog 194 = some false := by kernel_rfl
attribute [push_cast] tyS1 tyA1 tyS2 tyA2 tyG2 tyI2 tyY2 tyZ2 tyW2 tyS3 tyA3 tyL3 tyG3 tyI3 tyY3 tyZ3 tyW3 tyS4 tyA4 tyG4 tyB4 tyY4 tyZ4 tyW4 tyS5 tyA5 tyL5 tyG5 tyI5 tyY5 tyZ5 tyW5 tyS6 tyA6 tyG6 tyI6 tyY6 tyZ6 tyW6 tyS7 tyA7 tyG7 tyY7 tyZ7 tyW7 tyO7_0 tyO7_1 tyO7_2 tyO7_3 tyF7 tyS8 tyA8 tyG8 tyY8 tyZ8 tyW8 tyO8_0 tyO8_1 tyO8_2 tyO8_3 tyF8 tyS9 tyA9 tyL9 tyG9 tyT9 tyI9 tyY9 tyZ9 tyW9 tyS10 tyA10 tyG10 tyT10 tyI10 tyY10 tyZ10 tyW10 tyS11 tyA11 tyG11 tyT11 tyI11 tyY11 tyZ11 tyW11 tyS12 tyA12 tyG12 tyI12 tyY12 tyZ12 tyW12 tyS13 tyA13 tyG13 tyY13 tyZ13 tyW13 tyO13_0 tyO13_1 tyF13 tyS14 tyA14 tyG14 tyY14 tyZ14 tyW14 tyO14_0 tyO14_1 tyF14 tyS15 tyA15 tyG15 tyQ15 tyI15 tyT15 tyU15 tyZ15 tyS16 tyA16 tyG16 tyQ16 tyI16 tyT16 tyU16 tyZ16 tyS17 tyA17 tyG17 tyQ17 tyI17 tyT17 tyU17 tyZ17 tyS18 tyA18 tyG18 tyY18 tyZ18 tyO18_0 tyF18 tyS19 tyA19 tyG19 tyY19 tyZ19 tyO19_0 tyF19 tyS21 tyA21 tyG21 tyI21 tyY21 tyZ21 tyW21 tyS22 tyA22 tyE22 tyI22 tyT22 tyL22 tyG22 tyY22 tyZ22 tyW22 tyS23 tyA23 tyE23 tyI23 tyT23 tyG23 tyY23 tyZ23 tyW23 tyS24 tyA24 tyG24 tyY24 tyZ24 tyW24 tyO24_0 tyO24_1 tyO24_2 tyO24_3 tyO24_4 tyF24 tyS25 tyA25 tyL25 tyG25 tyY25 tyZ25 tyW25 tyO25_0 tyO25_1 tyO25_2 tyO25_3 tyO25_4 tyF25 tyS27 tyA27 tyS28 tyA28 tyS29 tyA29 tyS30 tyA30 tyS31 tyA31 tyE31 tyI31 tyT31 tyG31 tyY31 tyZ31 tyW31 tyS33 tyA33 tyS34 tyA34 tyS35 tyA35 tyS36 tyA36 tyE36 tyI36 tyT36 tyG36 tyY36 tyZ36 tyW36 tyS37 tyA37 tyS39 tyA39 tyS40 tyA40 tyS41 tyA41 tyS43 tyA43 tyS44 tyA44 tyG44 tyI44 tyY44 tyZ44 tyW44 tyS45 tyA45 tyS46 tyA46 tyS47 tyA47 tyS49 tyA49 tyS51 tyA51 tyS52 tyA52 tyE52 tyI52 tyT52 tyG52 tyY52 tyZ52 tyW52 tyS53 tyA53 tyG53 tyY53 tyZ53 tyW53 tyO53_0 tyO53_1 tyF53 tyS54 tyA54 tyG54 tyY54 tyZ54 tyW54 tyO54_0 tyO54_1 tyF54 tyS56 tyA56 tyS57 tyA57 tyG57 tyY57 tyZ57 tyW57 tyO57_0 tyO57_1 tyF57 tyS58 tyA58 tyL58 tyG58 tyY58 tyZ58 tyW58 tyO58_0 tyO58_1 tyF58 tyS59 tyA59 tyG59 tyQ59 tyI59 tyT59 tyU59 tyZ59 tyS60 tyA60 tyG60 tyY60 tyZ60 tyW60 tyO60_0 tyO60_1 tyO60_2 tyF60 tyS61 tyA61 tyG61 tyY61 tyZ61 tyW61 tyO61_0 tyO61_1 tyO61_2 tyF61 tyP61 tyS62 tyA62 tyS63 tyA63 tyS64 tyA64 tyS65 tyA65 tyS66 tyA66 tyS67 tyA67 tyS68 tyA68 tyG68 tyQ68 tyI68 tyT68 tyU68 tyZ68 tyS69 tyA69 tyS70 tyA70 tyS71 tyA71 tyS72 tyA72 tyS73 tyA73 tyS74 tyA74 tyS75 tyA75 tyS76 tyA76 tyS77 tyA77 tyS78 tyA78 tyS79 tyA79 tyS80 tyA80 tyS81 tyA81 tyS82 tyA82 tyS83 tyA83 tyG83 tyY83 tyZ83 tyW83 tyO83_0 tyO83_1 tyF83 tyS84 tyA84 tyL84 tyG84 tyY84 tyZ84 tyW84 tyO84_0 tyO84_1 tyF84 tyS85 tyA85 tyE85 tyI85 tyT85 tyG85 tyY85 tyZ85 tyW85 tyS86 tyA86 tyG86 tyY86 tyZ86 tyW86 tyO86_0 tyO86_1 tyO86_2 tyF86 tyS87 tyA87 tyL87 tyG87 tyY87 tyZ87 tyW87 tyO87_0 tyO87_1 tyO87_2 tyF87 tyP87 tyS89 tyA89 tyS90 tyA90 tyE90 tyI90 tyT90 tyL90 tyG90 tyY90 tyZ90 tyW90 tyS91 tyA91 tyG91 tyY91 tyZ91 tyW91 tyO91_0 tyO91_1 tyF91 tyS92 tyA92 tyL92 tyG92 tyY92 tyZ92 tyW92 tyO92_0 tyO92_1 tyF92 tyS93 tyA93 tyS94 tyA94 tyS95 tyA95 tyS96 tyA96 tyS97 tyA97 tyG97 tyY97 tyZ97 tyW97 tyO97_0 tyO97_1 tyO97_2 tyF97 tyS98 tyA98 tyG98 tyY98 tyZ98 tyW98 tyO98_0 tyO98_1 tyO98_2 tyF98 tyS99 tyA99 tyS100 tyA100 tyS101 tyA101 tyE101 tyI101 tyT101 tyG101 tyY101 tyZ101 tyW101 tyS102 tyA102 tyS103 tyA103 tyS104 tyA104 tyG104 tyQ104 tyI104 tyT104 tyU104 tyZ104 tyS105 tyA105 tyG105 tyY105 tyZ105 tyO105_0 tyO105_1 tyF105 tyS106 tyA106 tyG106 tyV106 tyY106 tyZ106 tyO106_0 tyO106_1 tyF106 tyS110 tyA110 tyS111 tyA111 tyS112 tyA112 tyS113 tyA113 tyS114 tyA114 tyS115 tyA115 tyS116 tyA116 tyS117 tyA117 tyS118 tyA118 tyS119 tyA119 tyS120 tyA120 tyS121 tyA121 tyS122 tyA122 tyS123 tyA123 tyS124 tyA124 tyG124 tyI124 tyY124 tyZ124 tyW124 tyS125 tyA125 tyS126 tyA126 tyG126 tyI126 tyY126 tyZ126 tyW126 tyS127 tyA127 tyS128 tyA128 tyS129 tyA129 tyS130 tyA130 tyS131 tyA131 tyS132 tyA132 tyS133 tyA133 tyS134 tyA134 tyG134 tyQ134 tyI134 tyT134 tyU134 tyZ134 tyS135 tyA135 tyS136 tyA136 tyS137 tyA137 tyS138 tyA138 tyS139 tyA139 tyS140 tyA140 tyS141 tyA141 tyS142 tyA142 tyE142 tyI142 tyT142 tyG142 tyY142 tyZ142 tyW142 tyS143 tyA143 tyS144 tyA144 tyS145 tyA145 tyS146 tyA146 tyE146 tyI146 tyT146 tyG146 tyY146 tyZ146 tyW146 tyS147 tyA147 tyU147 tyI147 tyT147 tyQ147 tyS148 tyA148 tyS149 tyA149 tyS150 tyA150 tyS151 tyA151 tyS152 tyA152 tyS153 tyA153 tyS154 tyA154 tyS155 tyA155 tyS156 tyA156 tyS157 tyA157 tyS158 tyA158 tyS159 tyA159 tyG159 tyI159 tyY159 tyZ159 tyW159 tyS161 tyA161 tyS162 tyA162 tyS163 tyA163 tyS164 tyA164 tyS166 tyA166 tyS167 tyA167 tyS168 tyA168 tyS169 tyA169 tyS170 tyA170 tyS171 tyA171 tyS172 tyA172 tyG172 tyI172 tyY172 tyZ172 tyW172 tyS173 tyA173 tyS174 tyA174 tyS175 tyA175 tyS176 tyA176 tyG176 tyQ176 tyI176 tyT176 tyU176 tyZ176 tyS177 tyA177 tyS178 tyA178 tyS179 tyA179 tyG179 tyQ179 tyI179 tyT179 tyU179 tyZ179 tyS180 tyA180 tyS181 tyA181 tyG181 tyY181 tyZ181 tyO181_0 tyO181_1 tyO181_2 tyO181_3 tyF181 tyS182 tyA182 tyG182 tyY182 tyZ182 tyO182_0 tyO182_1 tyO182_2 tyO182_3 tyF182 tyS183 tyA183 tyG183 tyZ183 tyW183 tyS184 tyA184 tyG184 tyY184 tyZ184 tyW184 tyF184 tyS185 tyA185 tyG185 tyY185 tyZ185 tyW185 tyF185 tyS186 tyA186 tyS187 tyA187 tyG187 tyI187 tyY187 tyZ187 tyW187 tyS188 tyA188 tyG188 tyI188 tyY188 tyZ188 tyW188 tyS189 tyA189 tyS190 tyA190 tyG190 tyI190 tyY190 tyZ190 tyW190 tyS191 tyA191 tyG191 tyI191 tyY191 tyZ191 tyW191 tyS192 tyA192 tyG192 tyY192 tyZ192 tyO192_0 tyO192_1 tyO192_2 tyO192_3 tyO192_4 tyO192_5 tyO192_6 tyO192_7 tyO192_8 tyO192_9 tyO192_10 tyF192 tyS193 tyA193 tyG193 tyY193 tyZ193 tyO193_0 tyO193_1 tyO193_2 tyO193_3 tyO193_4 tyO193_5 tyO193_6 tyO193_7 tyO193_8 tyO193_9 tyO193_10 tyF193 tyS194 tyA194
end Go.Av
end
