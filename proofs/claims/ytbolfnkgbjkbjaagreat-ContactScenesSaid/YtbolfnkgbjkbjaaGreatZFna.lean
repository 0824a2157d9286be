/- The program's functions in the machine's form (printed by Emit, checked here against the given form). -/
import Derived.Test.YtbolfnkgbjkbjaaGreatAm13
import Derived.Test.YtbolfnkgbjkbjaaGreatProg
set_option linter.unusedVariables false
set_option maxRecDepth 100000
namespace Go.Proofs.YtbolfnkgbjkbjaaGreat.AM
open Go Go.RowKit
/-- gosem.cut.init -/
def a2 : AFn := ⟨0, (.reg [
   ⟨some 0, .call (.f 1) [], none⟩]),
  []⟩
theorem c2 : chkFn Tryz.prog Tryz.f2 a2 = true := by kernel_rfl

/-- besom/besomlaw05.ContactPairs -/
def a3 : AFn := ⟨3, (.seq (.reg [
   ⟨some 3, .box 28 (.t 0), none⟩,
   ⟨some 4, .box 28 (.t 1), none⟩,
   ⟨some 6, .mv (.c (.bool false)), none⟩])
 (.seq (.reg [
   ⟨some 22, .ld 8 true (.t 3), none⟩,
   ⟨some 23, .ld 8 true (.t 4), none⟩,
   ⟨some 24, .call (.f 13) [(.t 22), (.t 23)], none⟩,
   ⟨some 21, .mv (.t 24), none⟩,
   ⟨some 25, .ext (.t 21) 0, none⟩,
   ⟨some 26, .ext (.t 21) 1, none⟩,
   ⟨some 7, .mv (.t 25), none⟩,
   ⟨some 8, .mv (.t 26), none⟩])
 (.seq (.reg [
   ⟨some 28, .ld 8 true (.t 3), none⟩,
   ⟨some 29, .ld 8 true (.t 4), none⟩,
   ⟨some 30, .call (.f 14) [(.t 28), (.t 29)], none⟩,
   ⟨some 27, .mv (.t 30), none⟩,
   ⟨some 31, .ext (.t 27) 0, none⟩,
   ⟨some 32, .ext (.t 27) 1, none⟩,
   ⟨some 9, .mv (.t 31), none⟩,
   ⟨some 10, .mv (.t 32), none⟩])
 (.seq (.reg [
   ⟨some 34, .ld 8 true (.t 3), none⟩,
   ⟨some 35, .call (.f 15) [(.t 34)], none⟩,
   ⟨some 33, .mv (.t 35), none⟩,
   ⟨some 36, .ext (.t 33) 0, none⟩,
   ⟨some 37, .ext (.t 33) 1, none⟩,
   ⟨some 11, .mv (.t 36), none⟩,
   ⟨some 12, .mv (.t 37), none⟩])
 (.seq (.reg [
   ⟨some 39, .ld 8 true (.t 3), none⟩,
   ⟨some 40, .call (.f 16) [(.t 39)], none⟩,
   ⟨some 38, .mv (.t 40), none⟩,
   ⟨some 41, .ext (.t 38) 0, none⟩,
   ⟨some 42, .ext (.t 38) 1, none⟩,
   ⟨some 13, .mv (.t 41), none⟩,
   ⟨some 14, .mv (.t 42), none⟩])
 (.seq (.reg [
   ⟨some 44, .ld 8 true (.t 3), none⟩,
   ⟨some 45, .ld 8 true (.t 4), none⟩,
   ⟨some 46, .mv (.t 2), none⟩,
   ⟨some 47, .call (.f 17) [(.t 44), (.t 45), (.t 46)], none⟩,
   ⟨some 43, .mv (.t 47), none⟩,
   ⟨some 48, .ext (.t 43) 0, none⟩,
   ⟨some 49, .ext (.t 43) 1, none⟩,
   ⟨some 50, .ext (.t 43) 2, none⟩,
   ⟨some 51, .ext (.t 43) 3, none⟩,
   ⟨some 15, .alloc 28 [(.int .i64 0), (.int .i64 0), (.int .i64 0), (.int .i64 0), (.int .i64 0), (.int .i64 0), (.int .i64 0), (.bool false)], none⟩,
   ⟨some 16, .alloc 28 [(.int .i64 0), (.int .i64 0), (.int .i64 0), (.int .i64 0), (.int .i64 0), (.int .i64 0), (.int .i64 0), (.bool false)], none⟩,
   ⟨none, .st 8 (.t 15) (.t 48), none⟩,
   ⟨none, .st 8 (.t 16) (.t 49), none⟩,
   ⟨some 17, .mv (.t 50), none⟩,
   ⟨some 18, .mv (.t 51), none⟩])
 (.seq (.reg [
   ⟨some 53, .ld 8 true (.t 3), none⟩,
   ⟨some 54, .ld 8 true (.t 4), none⟩,
   ⟨some 55, .mv (.t 2), none⟩,
   ⟨some 56, .call (.f 18) [(.t 53), (.t 54), (.t 55)], none⟩,
   ⟨some 52, .mv (.t 56), none⟩,
   ⟨some 57, .ext (.t 52) 0, none⟩,
   ⟨some 58, .ext (.t 52) 1, none⟩,
   ⟨some 19, .alloc 39 [(.int .i64 0), (.int .i64 0), (.int .i64 0), (.int .i64 0), (.int .i64 0), (.int .i64 0), (.int .i64 0), (.bool false), (.int .i64 0), (.int .i64 0), (.int .i64 0), (.int .i64 0), (.int .i64 0), (.int .i64 0), (.int .i64 0), (.bool false), (.bool false)], none⟩,
   ⟨none, .st 17 (.t 19) (.t 57), none⟩,
   ⟨some 20, .mv (.t 58), none⟩])
 (.seq (.reg [
   ⟨some 59, .mv (.t 7), none⟩,
   ⟨some 60, .mv (.t 9), none⟩,
   ⟨some 61, .binb false (.t 59) (.t 60), none⟩,
   ⟨some 62, .mv (.t 61), none⟩,
   ⟨some 63, .mv (.t 8), some (62, true)⟩,
   ⟨some 64, .mv (.t 10), some (62, true)⟩,
   ⟨some 65, .bin .eql (.t 63) (.t 64), some (62, true)⟩,
   ⟨some 66, .pick (.t 62) (.t 65) (.c (.bool false)), none⟩,
   ⟨some 67, .mv (.t 66), none⟩,
   ⟨some 68, .mv (.t 11), some (67, true)⟩,
   ⟨some 69, .mv (.t 13), some (67, true)⟩,
   ⟨some 70, .binb false (.t 68) (.t 69), some (67, true)⟩,
   ⟨some 71, .pick (.t 67) (.t 70) (.c (.bool false)), none⟩,
   ⟨some 72, .mv (.t 71), none⟩,
   ⟨some 73, .mv (.t 12), some (72, true)⟩,
   ⟨some 74, .mv (.t 14), some (72, true)⟩,
   ⟨some 75, .bin .eql (.t 73) (.t 74), some (72, true)⟩,
   ⟨some 76, .pick (.t 72) (.t 75) (.c (.bool false)), none⟩,
   ⟨some 77, .mv (.t 76), none⟩,
   ⟨some 78, .ld 8 true (.t 15), some (77, true)⟩,
   ⟨some 79, .fa (.t 19) 0, some (77, true)⟩,
   ⟨some 80, .ld 8 true (.t 79), some (77, true)⟩,
   ⟨some 81, .eqa false [.int .i64, .int .i64, .int .i64, .int .i64, .int .i64, .int .i64, .int .i64, .bool] (.t 78) (.t 80), some (77, true)⟩,
   ⟨some 82, .pick (.t 77) (.t 81) (.c (.bool false)), none⟩,
   ⟨some 83, .mv (.t 82), none⟩,
   ⟨some 84, .ld 8 true (.t 16), some (83, true)⟩,
   ⟨some 85, .fa (.t 19) 8, some (83, true)⟩,
   ⟨some 86, .ld 8 true (.t 85), some (83, true)⟩,
   ⟨some 87, .eqa false [.int .i64, .int .i64, .int .i64, .int .i64, .int .i64, .int .i64, .int .i64, .bool] (.t 84) (.t 86), some (83, true)⟩,
   ⟨some 88, .pick (.t 83) (.t 87) (.c (.bool false)), none⟩,
   ⟨some 89, .mv (.t 88), none⟩,
   ⟨some 90, .mv (.t 17), some (89, true)⟩,
   ⟨some 91, .fa (.t 19) 16, some (89, true)⟩,
   ⟨some 92, .ld 1 false (.t 91), some (89, true)⟩,
   ⟨some 93, .binb false (.t 90) (.t 92), some (89, true)⟩,
   ⟨some 94, .pick (.t 89) (.t 93) (.c (.bool false)), none⟩,
   ⟨some 95, .mv (.t 94), none⟩,
   ⟨some 96, .mv (.t 18), some (95, true)⟩,
   ⟨some 97, .mv (.t 20), some (95, true)⟩,
   ⟨some 98, .bin .eql (.t 96) (.t 97), some (95, true)⟩,
   ⟨some 99, .pick (.t 95) (.t 98) (.c (.bool false)), none⟩,
   ⟨some 100, .mv (.t 99), none⟩,
   ⟨some 101, .call (.f 19) [], some (100, true)⟩,
   ⟨some 102, .pick (.t 100) (.t 101) (.c (.bool false)), none⟩,
   ⟨some 6, .mv (.t 102), none⟩])
 .ret)))))))),
  [.tmp 6]⟩
theorem c3 : chkFn Tryz.prog Tryz.f3 a3 = true := by kernel_rfl

/-- besom/besomlaw05.ContactScenes -/
def a4 : AFn := ⟨2, (.seq (.reg [
   ⟨some 4, .mv (.c (.bool false)), none⟩])
 (.seq (.seq (.reg [
   ⟨some 22, .mv (.t 0), none⟩,
   ⟨some 23, .len (.t 22), none⟩,
   ⟨some 24, .bin .gtr (.t 23) (.c (.int .i64 20)), none⟩,
   ⟨some 25, .mv (.t 24), none⟩,
   ⟨some 26, .mv (.t 1), some (25, false)⟩,
   ⟨some 27, .len (.t 26), some (25, false)⟩,
   ⟨some 28, .bin .gtr (.t 27) (.c (.int .i64 20)), some (25, false)⟩,
   ⟨some 29, .pick (.t 25) (.c (.bool true)) (.t 28), none⟩])
 (.cond (.t 29) (.seq (.reg [
    ⟨some 30, .call (.f 19) [], none⟩,
    ⟨some 4, .mv (.t 30), none⟩])
  .ret)
 .skip))
 (.seq (.reg [
   ⟨some 32, .mv (.t 0), none⟩,
   ⟨some 33, .call (.f 20) [(.t 32)], none⟩,
   ⟨some 31, .mv (.t 33), none⟩,
   ⟨some 34, .ext (.t 31) 0, none⟩,
   ⟨some 35, .ext (.t 31) 1, none⟩,
   ⟨some 5, .alloc 24 [(.int .i64 0), (.int .i64 0)], none⟩,
   ⟨none, .st 2 (.t 5) (.t 34), none⟩,
   ⟨some 6, .mv (.t 35), none⟩])
 (.seq (.reg [
   ⟨some 37, .mv (.t 0), none⟩,
   ⟨some 38, .call (.f 21) [(.t 37)], none⟩,
   ⟨some 36, .mv (.t 38), none⟩,
   ⟨some 39, .ext (.t 36) 0, none⟩,
   ⟨some 40, .ext (.t 36) 1, none⟩,
   ⟨some 7, .alloc 24 [(.int .i64 0), (.int .i64 0)], none⟩,
   ⟨none, .st 2 (.t 7) (.t 39), none⟩,
   ⟨some 8, .mv (.t 40), none⟩])
 (.seq (.reg [
   ⟨some 42, .mv (.t 0), none⟩,
   ⟨some 43, .call (.f 22) [(.t 42)], none⟩,
   ⟨some 41, .mv (.t 43), none⟩,
   ⟨some 44, .ext (.t 41) 0, none⟩,
   ⟨some 45, .ext (.t 41) 1, none⟩,
   ⟨some 9, .mv (.t 44), none⟩,
   ⟨some 10, .mv (.t 45), none⟩])
 (.seq (.reg [
   ⟨some 47, .mv (.t 0), none⟩,
   ⟨some 48, .call (.f 23) [(.t 47)], none⟩,
   ⟨some 46, .mv (.t 48), none⟩,
   ⟨some 49, .ext (.t 46) 0, none⟩,
   ⟨some 50, .ext (.t 46) 1, none⟩,
   ⟨some 11, .mv (.t 49), none⟩,
   ⟨some 12, .mv (.t 50), none⟩])
 (.seq (.reg [
   ⟨some 52, .mv (.t 0), none⟩,
   ⟨some 53, .call (.f 24) [(.t 52)], none⟩,
   ⟨some 51, .mv (.t 53), none⟩,
   ⟨some 54, .ext (.t 51) 0, none⟩,
   ⟨some 55, .ext (.t 51) 1, none⟩,
   ⟨some 13, .mv (.t 54), none⟩,
   ⟨some 14, .mv (.t 55), none⟩])
 (.seq (.reg [
   ⟨some 57, .mv (.t 0), none⟩,
   ⟨some 58, .call (.f 25) [(.t 57)], none⟩,
   ⟨some 56, .mv (.t 58), none⟩,
   ⟨some 59, .ext (.t 56) 0, none⟩,
   ⟨some 60, .ext (.t 56) 1, none⟩,
   ⟨some 15, .mv (.t 59), none⟩,
   ⟨some 16, .mv (.t 60), none⟩])
 (.seq (.reg [
   ⟨some 62, .mv (.t 1), none⟩,
   ⟨some 63, .call (.f 26) [(.t 62)], none⟩,
   ⟨some 61, .mv (.t 63), none⟩,
   ⟨some 64, .ext (.t 61) 0, none⟩,
   ⟨some 65, .ext (.t 61) 1, none⟩,
   ⟨some 17, .mv (.t 64), none⟩,
   ⟨some 18, .mv (.t 65), none⟩])
 (.seq (.reg [
   ⟨some 67, .mv (.t 1), none⟩,
   ⟨some 68, .call (.f 27) [(.t 67)], none⟩,
   ⟨some 66, .mv (.t 68), none⟩,
   ⟨some 69, .ext (.t 66) 0, none⟩,
   ⟨some 70, .ext (.t 66) 1, none⟩,
   ⟨some 19, .mv (.t 69), none⟩,
   ⟨some 20, .mv (.t 70), none⟩])
 (.seq (.reg [
   ⟨some 71, .mv (.t 0), none⟩,
   ⟨some 72, .call (.f 28) [(.t 71)], none⟩,
   ⟨some 73, .mv (.t 0), none⟩,
   ⟨some 74, .call (.f 29) [(.t 73)], none⟩,
   ⟨some 75, .bin .eql (.t 72) (.t 74), none⟩,
   ⟨some 76, .mv (.t 75), none⟩,
   ⟨some 77, .ld 2 true (.t 5), some (76, true)⟩,
   ⟨some 78, .ld 2 true (.t 7), some (76, true)⟩,
   ⟨some 79, .eqa false [.int .i64, .int .i64] (.t 77) (.t 78), some (76, true)⟩,
   ⟨some 80, .pick (.t 76) (.t 79) (.c (.bool false)), none⟩,
   ⟨some 81, .mv (.t 80), none⟩,
   ⟨some 82, .mv (.t 6), some (81, true)⟩,
   ⟨some 83, .mv (.t 8), some (81, true)⟩,
   ⟨some 84, .bin .eql (.t 82) (.t 83), some (81, true)⟩,
   ⟨some 85, .pick (.t 81) (.t 84) (.c (.bool false)), none⟩,
   ⟨some 86, .mv (.t 85), none⟩,
   ⟨some 87, .mv (.t 9), some (86, true)⟩,
   ⟨some 88, .mv (.t 11), some (86, true)⟩,
   ⟨some 89, .binb false (.t 87) (.t 88), some (86, true)⟩,
   ⟨some 90, .pick (.t 86) (.t 89) (.c (.bool false)), none⟩,
   ⟨some 91, .mv (.t 90), none⟩,
   ⟨some 92, .mv (.t 10), some (91, true)⟩,
   ⟨some 93, .mv (.t 12), some (91, true)⟩,
   ⟨some 94, .bin .eql (.t 92) (.t 93), some (91, true)⟩,
   ⟨some 95, .pick (.t 91) (.t 94) (.c (.bool false)), none⟩,
   ⟨some 21, .mv (.t 95), none⟩])
 (.seq (.reg [
   ⟨some 96, .mv (.t 21), none⟩,
   ⟨some 97, .mv (.t 96), none⟩,
   ⟨some 98, .mv (.t 13), some (97, true)⟩,
   ⟨some 99, .mv (.t 15), some (97, true)⟩,
   ⟨some 100, .call (.f 30) [(.t 98), (.t 99)], some (97, true)⟩,
   ⟨some 101, .pick (.t 97) (.t 100) (.c (.bool false)), none⟩,
   ⟨some 102, .mv (.t 101), none⟩,
   ⟨some 103, .mv (.t 14), some (102, true)⟩,
   ⟨some 104, .mv (.t 16), some (102, true)⟩,
   ⟨some 105, .bin .eql (.t 103) (.t 104), some (102, true)⟩,
   ⟨some 106, .pick (.t 102) (.t 105) (.c (.bool false)), none⟩,
   ⟨some 107, .mv (.t 106), none⟩,
   ⟨some 108, .mv (.t 17), some (107, true)⟩,
   ⟨some 109, .mv (.t 19), some (107, true)⟩,
   ⟨some 110, .call (.f 31) [(.t 108), (.t 109)], some (107, true)⟩,
   ⟨some 111, .pick (.t 107) (.t 110) (.c (.bool false)), none⟩,
   ⟨some 112, .mv (.t 111), none⟩,
   ⟨some 113, .mv (.t 18), some (112, true)⟩,
   ⟨some 114, .mv (.t 20), some (112, true)⟩,
   ⟨some 115, .bin .eql (.t 113) (.t 114), some (112, true)⟩,
   ⟨some 116, .pick (.t 112) (.t 115) (.c (.bool false)), none⟩,
   ⟨some 117, .mv (.t 116), none⟩,
   ⟨some 118, .call (.f 19) [], some (117, true)⟩,
   ⟨some 119, .pick (.t 117) (.t 118) (.c (.bool false)), none⟩,
   ⟨some 4, .mv (.t 119), none⟩])
 .ret)))))))))))),
  [.tmp 4]⟩
theorem c4 : chkFn Tryz.prog Tryz.f4 a4 = true := by kernel_rfl

/-- besom/besomtop.TopPairs -/
def a5 : AFn := ⟨4, (.seq (.reg [
   ⟨some 4, .box 72 (.t 0), none⟩,
   ⟨some 5, .box 28 (.t 1), none⟩,
   ⟨some 6, .box 28 (.t 2), none⟩,
   ⟨some 8, .mv (.c (.bool false)), none⟩])
 (.seq (.seq (.reg [
   ⟨some 21, .fa (.t 4) 0, none⟩,
   ⟨some 22, .ld 7 true (.t 21), none⟩,
   ⟨some 23, .call (.f 32) [(.t 22), (.c (.int .i64 200))], none⟩,
   ⟨some 24, .mv (.t 23), none⟩,
   ⟨some 25, .fa (.t 4) 12, some (24, false)⟩,
   ⟨some 26, .ld 1 false (.t 25), some (24, false)⟩,
   ⟨some 27, .len (.t 26), some (24, false)⟩,
   ⟨some 28, .bin .gtr (.t 27) (.c (.int .i64 66)), some (24, false)⟩,
   ⟨some 29, .pick (.t 24) (.c (.bool true)) (.t 28), none⟩])
 (.cond (.t 29) (.seq (.reg [
    ⟨some 30, .call (.f 33) [], none⟩,
    ⟨some 8, .mv (.t 30), none⟩])
  .ret)
 .skip))
 (.seq (.reg [
   ⟨some 31, .ld 8 true (.t 5), none⟩,
   ⟨some 32, .ld 8 true (.t 6), none⟩,
   ⟨some 33, .bsl 28 [.int .i64, .int .i64, .int .i64, .int .i64, .int .i64, .int .i64, .int .i64, .bool] 2 [(.int .i64 0), (.int .i64 0), (.int .i64 0), (.int .i64 0), (.int .i64 0), (.int .i64 0), (.int .i64 0), (.bool false), (.int .i64 0), (.int .i64 0), (.int .i64 0), (.int .i64 0), (.int .i64 0), (.int .i64 0), (.int .i64 0), (.bool false)] [(0, 8, (.t 31)), (8, 8, (.t 32))], none⟩,
   ⟨some 9, .mv (.t 33), none⟩])
 (.seq (.reg [
   ⟨some 35, .fa (.t 4) 0, none⟩,
   ⟨some 36, .ld 7 true (.t 35), none⟩,
   ⟨some 37, .fa (.t 4) 7, none⟩,
   ⟨some 38, .ld 5 true (.t 37), none⟩,
   ⟨some 39, .mv (.t 9), none⟩,
   ⟨some 40, .fa (.t 4) 12, none⟩,
   ⟨some 41, .ld 1 false (.t 40), none⟩,
   ⟨some 42, .fa (.t 4) 13, none⟩,
   ⟨some 43, .ld 1 false (.t 42), none⟩,
   ⟨some 44, .fa (.t 4) 14, none⟩,
   ⟨some 45, .ld 1 false (.t 44), none⟩,
   ⟨some 46, .mv (.t 3), none⟩,
   ⟨some 47, .call (.f 34) [(.t 36), (.t 38), (.t 39), (.t 41), (.t 43), (.t 45), (.t 46)], none⟩,
   ⟨some 34, .mv (.t 47), none⟩,
   ⟨some 48, .ext (.t 34) 0, none⟩,
   ⟨some 49, .ext (.t 34) 1, none⟩,
   ⟨some 50, .ext (.t 34) 2, none⟩,
   ⟨some 10, .mv (.t 48), none⟩,
   ⟨some 11, .mv (.t 49), none⟩,
   ⟨some 12, .mv (.t 50), none⟩])
 (.seq (.seq (.reg [
   ⟨some 51, .mv (.t 12), none⟩,
   ⟨some 52, .bin .neq (.t 51) (.c (.int .i64 0)), none⟩,
   ⟨some 53, .mv (.t 52), none⟩,
   ⟨some 54, .mv (.t 11), some (53, false)⟩,
   ⟨some 55, .len (.t 54), some (53, false)⟩,
   ⟨some 56, .bin .eql (.t 55) (.c (.int .i64 0)), some (53, false)⟩,
   ⟨some 57, .pick (.t 53) (.c (.bool true)) (.t 56), none⟩,
   ⟨some 58, .mv (.t 57), none⟩,
   ⟨some 59, .mv (.t 10), some (58, false)⟩,
   ⟨some 60, .len (.t 59), some (58, false)⟩,
   ⟨some 61, .bin .neq (.t 60) (.c (.int .i64 2)), some (58, false)⟩,
   ⟨some 62, .pick (.t 58) (.c (.bool true)) (.t 61), none⟩,
   ⟨some 63, .mv (.t 62), none⟩,
   ⟨some 64, .mv (.t 10), some (63, false)⟩,
   ⟨some 65, .ia (.t 64) (.c (.int .i64 0)) 8, some (63, false)⟩,
   ⟨some 66, .fa (.t 65) 7, some (63, false)⟩,
   ⟨some 67, .ld 1 false (.t 66), some (63, false)⟩,
   ⟨some 68, .pick (.t 63) (.c (.bool true)) (.t 67), none⟩,
   ⟨some 69, .mv (.t 68), none⟩,
   ⟨some 70, .mv (.t 10), some (69, false)⟩,
   ⟨some 71, .ia (.t 70) (.c (.int .i64 1)) 8, some (69, false)⟩,
   ⟨some 72, .fa (.t 71) 7, some (69, false)⟩,
   ⟨some 73, .ld 1 false (.t 72), some (69, false)⟩,
   ⟨some 74, .pick (.t 69) (.c (.bool true)) (.t 73), none⟩])
 (.cond (.t 74) (.seq (.reg [
    ⟨some 75, .call (.f 33) [], none⟩,
    ⟨some 8, .mv (.t 75), none⟩])
  .ret)
 .skip))
 (.seq (.reg [
   ⟨some 13, .alloc 77 [(.int .i64 0), (.int .i64 0), (.int .i64 0), (.int .i64 0), (.int .i64 0), (.int .i64 0), (.int .i64 0), (.bool false), (.int .i64 0), (.int .i64 0), (.int .i64 0), (.int .i64 0), (.int .i64 0), (.int .i64 0), (.int .i64 0), (.bool false)], none⟩])
 (.seq (.seq (.reg [
   ⟨some 76, .mv (.t 9), none⟩,
   ⟨some 77, .len (.t 76), none⟩,
   ⟨some 78, .mv (.c (.int .i64 0)), none⟩])
 (.blk 0 (.loop 0 (.seq (.reg [
    ⟨some 79, .bin .lss (.t 78) (.t 77), none⟩])
  (.seq (.cond (.t 79) .skip
  (.exit 0))
  (.seq (.blk 1 (.seq (.reg [
    ⟨some 80, .mv (.t 78), none⟩,
    ⟨some 14, .mv (.t 80), none⟩])
  (.seq (.reg [
    ⟨some 15, .mv (.c (.int .i64 (-1))), none⟩])
  (.seq (.seq (.reg [
    ⟨some 81, .fa (.t 4) 13, none⟩,
    ⟨some 82, .ld 1 false (.t 81), none⟩,
    ⟨some 83, .mv (.t 14), none⟩,
    ⟨some 84, .bin .eql (.t 82) (.t 83), none⟩])
  (.cond (.t 84) (.reg [
     ⟨some 15, .mv (.c (.int .i64 0)), none⟩])
  .skip))
  (.seq (.drw [
    (⟨some 86, .fa (.t 4) 0, none⟩, []),
    (⟨some 87, .ld 7 true (.t 86), none⟩, [0]),
    (⟨some 88, .fa (.t 4) 7, none⟩, []),
    (⟨some 89, .ld 5 true (.t 88), none⟩, [2]),
    (⟨some 90, .mv (.t 9), none⟩, []),
    (⟨some 91, .mv (.t 14), none⟩, []),
    (⟨some 92, .mv (.t 14), none⟩, []),
    (⟨some 93, .bin .add (.t 92) (.c (.int .i64 1)), none⟩, [6]),
    (⟨some 94, .slc (.t 90) (some (.t 91)) (some (.t 93)) 8, none⟩, [4, 5, 7, 6]),
    (⟨some 95, .fa (.t 4) 12, none⟩, []),
    (⟨some 96, .ld 1 false (.t 95), none⟩, [9]),
    (⟨some 97, .mv (.t 15), none⟩, []),
    (⟨some 98, .fa (.t 4) 14, none⟩, []),
    (⟨some 99, .ld 1 false (.t 98), none⟩, [12]),
    (⟨some 100, .mv (.t 3), none⟩, []),
    (⟨some 101, .call (.f 34) [(.t 87), (.t 89), (.t 94), (.t 96), (.t 97), (.t 99), (.t 100)], none⟩, [1, 0, 3, 2, 8, 4, 5, 7, 6, 10, 9, 11, 13, 12, 14]),
    (⟨some 85, .mv (.t 101), none⟩, [15, 1, 0, 3, 2, 8, 4, 5, 7, 6, 10, 9, 11, 13, 12, 14]),
    (⟨some 102, .ext (.t 85) 0, none⟩, [16, 15, 1, 0, 3, 2, 8, 4, 5, 7, 6, 10, 9, 11, 13, 12, 14]),
    (⟨some 103, .ext (.t 85) 1, none⟩, [16, 15, 1, 0, 3, 2, 8, 4, 5, 7, 6, 10, 9, 11, 13, 12, 14]),
    (⟨some 104, .ext (.t 85) 2, none⟩, [16, 15, 1, 0, 3, 2, 8, 4, 5, 7, 6, 10, 9, 11, 13, 12, 14]),
    (⟨some 16, .mv (.t 102), none⟩, [17, 16, 15, 1, 0, 3, 2, 8, 4, 5, 7, 6, 10, 9, 11, 13, 12, 14]),
    (⟨some 17, .mv (.t 103), none⟩, [18, 16, 15, 1, 0, 3, 2, 8, 4, 5, 7, 6, 10, 9, 11, 13, 12, 14, 20, 17]),
    (⟨some 18, .mv (.t 104), none⟩, [19, 16, 15, 1, 0, 3, 2, 8, 4, 5, 7, 6, 10, 9, 11, 13, 12, 14, 21, 18, 20, 17])])
  (.seq (.seq (.reg [
    ⟨some 105, .mv (.t 18), none⟩,
    ⟨some 106, .bin .neq (.t 105) (.c (.int .i64 0)), none⟩,
    ⟨some 107, .mv (.t 106), none⟩,
    ⟨some 108, .mv (.t 16), some (107, false)⟩,
    ⟨some 109, .len (.t 108), some (107, false)⟩,
    ⟨some 110, .bin .neq (.t 109) (.c (.int .i64 1)), some (107, false)⟩,
    ⟨some 111, .pick (.t 107) (.c (.bool true)) (.t 110), none⟩])
  (.cond (.t 111) (.seq (.reg [
     ⟨some 8, .mv (.c (.bool false)), none⟩])
   .ret)
  .skip))
  (.reg [
    ⟨some 112, .mv (.t 14), none⟩,
    ⟨some 113, .mv (.t 16), none⟩,
    ⟨some 114, .ia (.t 113) (.c (.int .i64 0)) 8, none⟩,
    ⟨some 115, .ld 8 true (.t 114), none⟩,
    ⟨some 116, .iaa (.t 13) (.t 112) 2 8, none⟩,
    ⟨none, .st 8 (.t 116) (.t 115), none⟩])))))))
  (.reg [
    ⟨some 117, .bin .add (.t 78) (.c (.int .i64 1)), none⟩,
    ⟨some 78, .mv (.t 117), none⟩])))))))
 (.seq (.drw [
   (⟨some 118, .mv (.t 10), none⟩, []),
   (⟨some 119, .ia (.t 118) (.c (.int .i64 0)) 8, none⟩, [0]),
   (⟨some 120, .fa (.t 119) 2, none⟩, [1, 0]),
   (⟨some 121, .fa (.t 120) 2, none⟩, [2, 1, 0]),
   (⟨some 122, .fa (.t 121) 0, none⟩, [3, 2, 1, 0]),
   (⟨some 123, .ld 1 false (.t 122), none⟩, [4, 3, 2, 1, 0]),
   (⟨some 124, .mv (.t 10), none⟩, []),
   (⟨some 125, .ia (.t 124) (.c (.int .i64 1)) 8, none⟩, [6]),
   (⟨some 126, .fa (.t 125) 2, none⟩, [7, 6]),
   (⟨some 127, .fa (.t 126) 2, none⟩, [8, 7, 6]),
   (⟨some 128, .fa (.t 127) 0, none⟩, [9, 8, 7, 6]),
   (⟨some 129, .ld 1 false (.t 128), none⟩, [10, 9, 8, 7, 6]),
   (⟨some 130, .bin .add (.t 123) (.t 129), none⟩, [5, 4, 3, 2, 1, 0, 11, 10, 9, 8, 7, 6]),
   (⟨some 131, .iaa (.t 13) (.c (.int .i64 0)) 2 8, none⟩, []),
   (⟨some 132, .fa (.t 131) 2, none⟩, [13]),
   (⟨some 133, .fa (.t 132) 2, none⟩, [14, 13]),
   (⟨some 134, .fa (.t 133) 0, none⟩, [15, 14, 13]),
   (⟨some 135, .ld 1 false (.t 134), none⟩, [16, 15, 14, 13]),
   (⟨some 136, .bin .sub (.t 130) (.t 135), none⟩, [12, 5, 4, 3, 2, 1, 0, 11, 10, 9, 8, 7, 6, 17, 16, 15, 14, 13]),
   (⟨some 137, .iaa (.t 13) (.c (.int .i64 1)) 2 8, none⟩, []),
   (⟨some 138, .fa (.t 137) 2, none⟩, [19]),
   (⟨some 139, .fa (.t 138) 2, none⟩, [20, 19]),
   (⟨some 140, .fa (.t 139) 0, none⟩, [21, 20, 19]),
   (⟨some 141, .ld 1 false (.t 140), none⟩, [22, 21, 20, 19]),
   (⟨some 142, .bin .sub (.t 136) (.t 141), none⟩, [18, 12, 5, 4, 3, 2, 1, 0, 11, 10, 9, 8, 7, 6, 17, 16, 15, 14, 13, 23, 22, 21, 20, 19]),
   (⟨some 19, .mv (.t 142), none⟩, [24, 18, 12, 5, 4, 3, 2, 1, 0, 11, 10, 9, 8, 7, 6, 17, 16, 15, 14, 13, 23, 22, 21, 20, 19])])
 (.seq (.drw [
   (⟨some 143, .mv (.t 10), none⟩, []),
   (⟨some 144, .ia (.t 143) (.c (.int .i64 0)) 8, none⟩, [0]),
   (⟨some 145, .fa (.t 144) 2, none⟩, [1, 0]),
   (⟨some 146, .fa (.t 145) 2, none⟩, [2, 1, 0]),
   (⟨some 147, .fa (.t 146) 1, none⟩, [3, 2, 1, 0]),
   (⟨some 148, .ld 1 false (.t 147), none⟩, [4, 3, 2, 1, 0]),
   (⟨some 149, .mv (.t 10), none⟩, []),
   (⟨some 150, .ia (.t 149) (.c (.int .i64 1)) 8, none⟩, [6]),
   (⟨some 151, .fa (.t 150) 2, none⟩, [7, 6]),
   (⟨some 152, .fa (.t 151) 2, none⟩, [8, 7, 6]),
   (⟨some 153, .fa (.t 152) 1, none⟩, [9, 8, 7, 6]),
   (⟨some 154, .ld 1 false (.t 153), none⟩, [10, 9, 8, 7, 6]),
   (⟨some 155, .bin .add (.t 148) (.t 154), none⟩, [5, 4, 3, 2, 1, 0, 11, 10, 9, 8, 7, 6]),
   (⟨some 156, .iaa (.t 13) (.c (.int .i64 0)) 2 8, none⟩, []),
   (⟨some 157, .fa (.t 156) 2, none⟩, [13]),
   (⟨some 158, .fa (.t 157) 2, none⟩, [14, 13]),
   (⟨some 159, .fa (.t 158) 1, none⟩, [15, 14, 13]),
   (⟨some 160, .ld 1 false (.t 159), none⟩, [16, 15, 14, 13]),
   (⟨some 161, .bin .sub (.t 155) (.t 160), none⟩, [12, 5, 4, 3, 2, 1, 0, 11, 10, 9, 8, 7, 6, 17, 16, 15, 14, 13]),
   (⟨some 162, .iaa (.t 13) (.c (.int .i64 1)) 2 8, none⟩, []),
   (⟨some 163, .fa (.t 162) 2, none⟩, [19]),
   (⟨some 164, .fa (.t 163) 2, none⟩, [20, 19]),
   (⟨some 165, .fa (.t 164) 1, none⟩, [21, 20, 19]),
   (⟨some 166, .ld 1 false (.t 165), none⟩, [22, 21, 20, 19]),
   (⟨some 167, .bin .sub (.t 161) (.t 166), none⟩, [18, 12, 5, 4, 3, 2, 1, 0, 11, 10, 9, 8, 7, 6, 17, 16, 15, 14, 13, 23, 22, 21, 20, 19]),
   (⟨some 20, .mv (.t 167), none⟩, [24, 18, 12, 5, 4, 3, 2, 1, 0, 11, 10, 9, 8, 7, 6, 17, 16, 15, 14, 13, 23, 22, 21, 20, 19])])
 (.seq (.drw [
   (⟨some 168, .mv (.t 19), none⟩, []),
   (⟨some 169, .bin .eql (.t 168) (.c (.int .i64 0)), none⟩, [0]),
   (⟨some 170, .mv (.t 169), none⟩, [1, 0]),
   (⟨some 171, .mv (.t 20), some (170, true)⟩, [2, 1, 0]),
   (⟨some 172, .bin .eql (.t 171) (.c (.int .i64 0)), some (170, true)⟩, [3, 2, 1, 0]),
   (⟨some 173, .pick (.t 170) (.t 172) (.c (.bool false)), none⟩, [2, 1, 0, 4, 3]),
   (⟨some 174, .mv (.t 173), none⟩, [5, 2, 1, 0, 4, 3]),
   (⟨some 175, .mv (.t 10), some (174, true)⟩, [6, 5, 2, 1, 0, 4, 3]),
   (⟨some 176, .ia (.t 175) (.c (.int .i64 0)) 8, some (174, true)⟩, [7, 6, 5, 2, 1, 0, 4, 3]),
   (⟨some 177, .fa (.t 176) 2, some (174, true)⟩, [8, 7, 6, 5, 2, 1, 0, 4, 3]),
   (⟨some 178, .fa (.t 177) 0, some (174, true)⟩, [9, 8, 7, 6, 5, 2, 1, 0, 4, 3]),
   (⟨some 179, .ld 2 true (.t 178), some (174, true)⟩, [10, 9, 8, 7, 6, 5, 2, 1, 0, 4, 3]),
   (⟨some 180, .iaa (.t 13) (.c (.int .i64 0)) 2 8, some (174, true)⟩, [6, 5, 2, 1, 0, 4, 3]),
   (⟨some 181, .fa (.t 180) 2, some (174, true)⟩, [12, 6, 5, 2, 1, 0, 4, 3]),
   (⟨some 182, .fa (.t 181) 0, some (174, true)⟩, [13, 12, 6, 5, 2, 1, 0, 4, 3]),
   (⟨some 183, .ld 2 true (.t 182), some (174, true)⟩, [14, 13, 12, 6, 5, 2, 1, 0, 4, 3]),
   (⟨some 184, .eqa false [.int .i64, .int .i64] (.t 179) (.t 183), some (174, true)⟩, [11, 10, 9, 8, 7, 6, 5, 2, 1, 0, 4, 3, 15, 14, 13, 12]),
   (⟨some 185, .pick (.t 174) (.t 184) (.c (.bool false)), none⟩, [6, 5, 2, 1, 0, 4, 3, 16, 11, 10, 9, 8, 7, 15, 14, 13, 12]),
   (⟨some 186, .mv (.t 185), none⟩, [17, 6, 5, 2, 1, 0, 4, 3, 16, 11, 10, 9, 8, 7, 15, 14, 13, 12]),
   (⟨some 187, .mv (.t 10), some (186, true)⟩, [18, 17, 6, 5, 2, 1, 0, 4, 3, 16, 11, 10, 9, 8, 7, 15, 14, 13, 12]),
   (⟨some 188, .ia (.t 187) (.c (.int .i64 1)) 8, some (186, true)⟩, [19, 18, 17, 6, 5, 2, 1, 0, 4, 3, 16, 11, 10, 9, 8, 7, 15, 14, 13, 12]),
   (⟨some 189, .fa (.t 188) 2, some (186, true)⟩, [20, 19, 18, 17, 6, 5, 2, 1, 0, 4, 3, 16, 11, 10, 9, 8, 7, 15, 14, 13, 12]),
   (⟨some 190, .fa (.t 189) 0, some (186, true)⟩, [21, 20, 19, 18, 17, 6, 5, 2, 1, 0, 4, 3, 16, 11, 10, 9, 8, 7, 15, 14, 13, 12]),
   (⟨some 191, .ld 2 true (.t 190), some (186, true)⟩, [22, 21, 20, 19, 18, 17, 6, 5, 2, 1, 0, 4, 3, 16, 11, 10, 9, 8, 7, 15, 14, 13, 12]),
   (⟨some 192, .iaa (.t 13) (.c (.int .i64 1)) 2 8, some (186, true)⟩, [18, 17, 6, 5, 2, 1, 0, 4, 3, 16, 11, 10, 9, 8, 7, 15, 14, 13, 12]),
   (⟨some 193, .fa (.t 192) 2, some (186, true)⟩, [24, 18, 17, 6, 5, 2, 1, 0, 4, 3, 16, 11, 10, 9, 8, 7, 15, 14, 13, 12]),
   (⟨some 194, .fa (.t 193) 0, some (186, true)⟩, [25, 24, 18, 17, 6, 5, 2, 1, 0, 4, 3, 16, 11, 10, 9, 8, 7, 15, 14, 13, 12]),
   (⟨some 195, .ld 2 true (.t 194), some (186, true)⟩, [26, 25, 24, 18, 17, 6, 5, 2, 1, 0, 4, 3, 16, 11, 10, 9, 8, 7, 15, 14, 13, 12]),
   (⟨some 196, .eqa false [.int .i64, .int .i64] (.t 191) (.t 195), some (186, true)⟩, [23, 22, 21, 20, 19, 18, 17, 6, 5, 2, 1, 0, 4, 3, 16, 11, 10, 9, 8, 7, 15, 14, 13, 12, 27, 26, 25, 24]),
   (⟨some 197, .pick (.t 186) (.t 196) (.c (.bool false)), none⟩, [18, 17, 6, 5, 2, 1, 0, 4, 3, 16, 11, 10, 9, 8, 7, 15, 14, 13, 12, 28, 23, 22, 21, 20, 19, 27, 26, 25, 24]),
   (⟨some 198, .mv (.t 197), none⟩, [29, 18, 17, 6, 5, 2, 1, 0, 4, 3, 16, 11, 10, 9, 8, 7, 15, 14, 13, 12, 28, 23, 22, 21, 20, 19, 27, 26, 25, 24]),
   (⟨some 199, .call (.f 33) [], some (198, true)⟩, [30, 29, 18, 17, 6, 5, 2, 1, 0, 4, 3, 16, 11, 10, 9, 8, 7, 15, 14, 13, 12, 28, 23, 22, 21, 20, 19, 27, 26, 25, 24]),
   (⟨some 200, .pick (.t 198) (.t 199) (.c (.bool false)), none⟩, [30, 29, 18, 17, 6, 5, 2, 1, 0, 4, 3, 16, 11, 10, 9, 8, 7, 15, 14, 13, 12, 28, 23, 22, 21, 20, 19, 27, 26, 25, 24, 31]),
   (⟨some 8, .mv (.t 200), none⟩, [32, 30, 29, 18, 17, 6, 5, 2, 1, 0, 4, 3, 16, 11, 10, 9, 8, 7, 15, 14, 13, 12, 28, 23, 22, 21, 20, 19, 27, 26, 25, 24, 31])])
 .ret)))))))))),
  [.tmp 8]⟩
theorem c5 : chkFn Tryz.prog Tryz.f5 a5 = true := by kernel_rfl

/-- besom/besomtop.TopParted -/
def a6 : AFn := ⟨4, (.seq (.reg [
   ⟨some 4, .box 72 (.t 0), none⟩,
   ⟨some 8, .mv (.c (.bool false)), none⟩])
 (.seq (.seq (.reg [
   ⟨some 28, .fa (.t 4) 0, none⟩,
   ⟨some 29, .ld 7 true (.t 28), none⟩,
   ⟨some 30, .call (.f 32) [(.t 29), (.c (.int .i64 200))], none⟩,
   ⟨some 31, .mv (.t 30), none⟩,
   ⟨some 32, .fa (.t 4) 12, some (31, false)⟩,
   ⟨some 33, .ld 1 false (.t 32), some (31, false)⟩,
   ⟨some 34, .len (.t 33), some (31, false)⟩,
   ⟨some 35, .bin .gtr (.t 34) (.c (.int .i64 66)), some (31, false)⟩,
   ⟨some 36, .pick (.t 31) (.c (.bool true)) (.t 35), none⟩,
   ⟨some 37, .mv (.t 36), none⟩,
   ⟨some 38, .mv (.t 1), some (37, false)⟩,
   ⟨some 39, .len (.t 38), some (37, false)⟩,
   ⟨some 40, .bin .gtr (.t 39) (.c (.int .i64 18)), some (37, false)⟩,
   ⟨some 41, .pick (.t 37) (.c (.bool true)) (.t 40), none⟩])
 (.cond (.t 41) (.seq (.reg [
    ⟨some 42, .call (.f 33) [], none⟩,
    ⟨some 8, .mv (.t 42), none⟩])
  .ret)
 .skip))
 (.seq (.reg [
   ⟨some 43, .mv (.t 2), none⟩,
   ⟨some 44, .cv .i64 (.t 43), none⟩,
   ⟨some 45, .bin .rem (.t 44) (.c (.int .i64 31)), none⟩,
   ⟨some 46, .mv (.t 3), none⟩,
   ⟨some 47, .cv .i64 (.t 46), none⟩,
   ⟨some 48, .bin .rem (.t 47) (.c (.int .i64 31)), none⟩,
   ⟨some 9, .mv (.t 45), none⟩,
   ⟨some 10, .mv (.t 48), none⟩])
 (.seq (.reg [
   ⟨some 50, .fa (.t 4) 0, none⟩,
   ⟨some 51, .ld 7 true (.t 50), none⟩,
   ⟨some 52, .fa (.t 4) 7, none⟩,
   ⟨some 53, .ld 5 true (.t 52), none⟩,
   ⟨some 54, .mv (.t 1), none⟩,
   ⟨some 55, .fa (.t 4) 12, none⟩,
   ⟨some 56, .ld 1 false (.t 55), none⟩,
   ⟨some 57, .fa (.t 4) 13, none⟩,
   ⟨some 58, .ld 1 false (.t 57), none⟩,
   ⟨some 59, .fa (.t 4) 14, none⟩,
   ⟨some 60, .ld 1 false (.t 59), none⟩,
   ⟨some 61, .mv (.t 9), none⟩,
   ⟨some 62, .mv (.t 10), none⟩,
   ⟨some 63, .bin .add (.t 61) (.t 62), none⟩,
   ⟨some 64, .call (.f 35) [(.t 51), (.t 53), (.t 54), (.t 56), (.t 58), (.t 60), (.t 63)], none⟩,
   ⟨some 49, .mv (.t 64), none⟩,
   ⟨some 65, .ext (.t 49) 0, none⟩,
   ⟨some 66, .ext (.t 49) 1, none⟩,
   ⟨some 67, .ext (.t 49) 2, none⟩,
   ⟨some 68, .ext (.t 49) 3, none⟩,
   ⟨some 11, .mv (.t 65), none⟩,
   ⟨some 12, .mv (.t 66), none⟩,
   ⟨some 13, .mv (.t 67), none⟩,
   ⟨some 14, .mv (.t 68), none⟩])
 (.seq (.reg [
   ⟨some 70, .fa (.t 4) 0, none⟩,
   ⟨some 71, .ld 7 true (.t 70), none⟩,
   ⟨some 72, .fa (.t 4) 7, none⟩,
   ⟨some 73, .ld 5 true (.t 72), none⟩,
   ⟨some 74, .mv (.t 1), none⟩,
   ⟨some 75, .fa (.t 4) 12, none⟩,
   ⟨some 76, .ld 1 false (.t 75), none⟩,
   ⟨some 77, .fa (.t 4) 13, none⟩,
   ⟨some 78, .ld 1 false (.t 77), none⟩,
   ⟨some 79, .fa (.t 4) 14, none⟩,
   ⟨some 80, .ld 1 false (.t 79), none⟩,
   ⟨some 81, .mv (.t 9), none⟩,
   ⟨some 82, .call (.f 35) [(.t 71), (.t 73), (.t 74), (.t 76), (.t 78), (.t 80), (.t 81)], none⟩,
   ⟨some 69, .mv (.t 82), none⟩,
   ⟨some 83, .ext (.t 69) 0, none⟩,
   ⟨some 84, .ext (.t 69) 1, none⟩,
   ⟨some 85, .ext (.t 69) 2, none⟩,
   ⟨some 86, .ext (.t 69) 3, none⟩,
   ⟨some 15, .mv (.t 83), none⟩,
   ⟨some 16, .mv (.t 84), none⟩,
   ⟨some 17, .mv (.t 85), none⟩,
   ⟨some 18, .mv (.t 86), none⟩])
 (.seq (.seq (.reg [
   ⟨some 87, .mv (.t 14), none⟩,
   ⟨some 88, .bin .neq (.t 87) (.c (.int .i64 0)), none⟩,
   ⟨some 89, .mv (.t 88), none⟩,
   ⟨some 90, .mv (.t 18), some (89, false)⟩,
   ⟨some 91, .bin .neq (.t 90) (.c (.int .i64 0)), some (89, false)⟩,
   ⟨some 92, .pick (.t 89) (.c (.bool true)) (.t 91), none⟩])
 (.cond (.t 92) (.seq (.reg [
    ⟨some 93, .mv (.t 14), none⟩,
    ⟨some 94, .bin .neq (.t 93) (.c (.int .i64 0)), none⟩,
    ⟨some 95, .mv (.t 94), none⟩,
    ⟨some 96, .call (.f 33) [], some (95, true)⟩,
    ⟨some 97, .pick (.t 95) (.t 96) (.c (.bool false)), none⟩,
    ⟨some 8, .mv (.t 97), none⟩])
  .ret)
 .skip))
 (.seq (.reg [
   ⟨some 19, .mvn 82 [.int .i64, .int .i64, .int .i64], none⟩])
 (.seq (.seq (.reg [
   ⟨some 98, .fa (.t 4) 12, none⟩,
   ⟨some 99, .ld 1 false (.t 98), none⟩,
   ⟨some 100, .len (.t 99), none⟩,
   ⟨some 101, .mv (.c (.int .i64 0)), none⟩])
 (.blk 0 (.loop 0 (.seq (.reg [
    ⟨some 102, .bin .lss (.t 101) (.t 100), none⟩])
  (.seq (.cond (.t 102) .skip
  (.exit 0))
  (.seq (.blk 1 (.seq (.reg [
    ⟨some 103, .ia (.t 99) (.t 101) 3, none⟩,
    ⟨some 104, .ld 3 true (.t 103), none⟩,
    ⟨some 21, .alloc 82 [(.int .i64 0), (.int .i64 0), (.int .i64 0)], none⟩,
    ⟨none, .st 3 (.t 21) (.t 104), none⟩])
  (.reg [
    ⟨some 105, .mv (.t 19), none⟩,
    ⟨some 106, .fa (.t 21) 0, none⟩,
    ⟨some 107, .ld 1 false (.t 106), none⟩,
    ⟨some 108, .mv (.t 16), none⟩,
    ⟨some 109, .bin .sub (.t 107) (.t 108), none⟩,
    ⟨some 110, .mx false (.c (.int .i64 0)) (.t 109), none⟩,
    ⟨some 111, .fa (.t 21) 1, none⟩,
    ⟨some 112, .ld 1 false (.t 111), none⟩,
    ⟨some 113, .mv (.t 16), none⟩,
    ⟨some 114, .bin .sub (.t 112) (.t 113), none⟩,
    ⟨some 115, .mx false (.c (.int .i64 0)) (.t 114), none⟩,
    ⟨some 116, .fa (.t 21) 2, none⟩,
    ⟨some 117, .ld 1 false (.t 116), none⟩,
    ⟨some 118, .bld [(.int .i64 0), (.int .i64 0), (.int .i64 0)] [(0, 1, (.t 110)), (1, 1, (.t 115)), (2, 1, (.t 117))], none⟩,
    ⟨some 119, .bsl 82 [.int .i64, .int .i64, .int .i64] 1 [(.int .i64 0), (.int .i64 0), (.int .i64 0)] [(0, 3, (.t 118))], none⟩,
    ⟨some 120, .app 82 [.int .i64, .int .i64, .int .i64] 24 (.t 105) (.t 119), none⟩,
    ⟨some 19, .mv (.t 120), none⟩])))
  (.reg [
    ⟨some 121, .bin .add (.t 101) (.c (.int .i64 1)), none⟩,
    ⟨some 101, .mv (.t 121), none⟩])))))))
 (.seq (.reg [
   ⟨some 123, .fa (.t 4) 0, none⟩,
   ⟨some 124, .ld 7 true (.t 123), none⟩,
   ⟨some 125, .fa (.t 4) 7, none⟩,
   ⟨some 126, .ld 5 true (.t 125), none⟩,
   ⟨some 127, .mv (.t 15), none⟩,
   ⟨some 128, .mv (.t 19), none⟩,
   ⟨some 129, .fa (.t 4) 13, none⟩,
   ⟨some 130, .ld 1 false (.t 129), none⟩,
   ⟨some 131, .fa (.t 4) 14, none⟩,
   ⟨some 132, .ld 1 false (.t 131), none⟩,
   ⟨some 133, .mv (.t 10), none⟩,
   ⟨some 134, .call (.f 35) [(.t 124), (.t 126), (.t 127), (.t 128), (.t 130), (.t 132), (.t 133)], none⟩,
   ⟨some 122, .mv (.t 134), none⟩,
   ⟨some 135, .ext (.t 122) 0, none⟩,
   ⟨some 136, .ext (.t 122) 1, none⟩,
   ⟨some 137, .ext (.t 122) 2, none⟩,
   ⟨some 138, .ext (.t 122) 3, none⟩,
   ⟨some 22, .mv (.t 135), none⟩,
   ⟨some 23, .mv (.t 136), none⟩,
   ⟨some 24, .mv (.t 137), none⟩,
   ⟨some 25, .mv (.t 138), none⟩])
 (.seq (.seq (.reg [
   ⟨some 139, .mv (.t 25), none⟩,
   ⟨some 140, .bin .neq (.t 139) (.c (.int .i64 0)), none⟩,
   ⟨some 141, .mv (.t 140), none⟩,
   ⟨some 142, .mv (.t 16), some (141, false)⟩,
   ⟨some 143, .mv (.t 23), some (141, false)⟩,
   ⟨some 144, .bin .add (.t 142) (.t 143), some (141, false)⟩,
   ⟨some 145, .mv (.t 12), some (141, false)⟩,
   ⟨some 146, .bin .neq (.t 144) (.t 145), some (141, false)⟩,
   ⟨some 147, .pick (.t 141) (.c (.bool true)) (.t 146), none⟩,
   ⟨some 148, .mv (.t 147), none⟩,
   ⟨some 149, .mv (.t 22), some (148, false)⟩,
   ⟨some 150, .mv (.t 11), some (148, false)⟩,
   ⟨some 151, .call (.f 31) [(.t 149), (.t 150)], some (148, false)⟩,
   ⟨some 152, .not (.t 151), some (148, false)⟩,
   ⟨some 153, .pick (.t 148) (.c (.bool true)) (.t 152), none⟩])
 (.cond (.t 153) (.seq (.reg [
    ⟨some 8, .mv (.c (.bool false)), none⟩])
  .ret)
 .skip))
 (.seq (.seq (.reg [
   ⟨some 154, .mv (.t 24), none⟩,
   ⟨some 155, .len (.t 154), none⟩,
   ⟨some 156, .mv (.c (.int .i64 0)), none⟩])
 (.blk 2 (.loop 1 (.seq (.reg [
    ⟨some 157, .bin .lss (.t 156) (.t 155), none⟩])
  (.seq (.cond (.t 157) .skip
  (.exit 2))
  (.seq (.blk 3 (.seq (.reg [
    ⟨some 158, .ia (.t 154) (.t 156) 3, none⟩,
    ⟨some 159, .ld 3 true (.t 158), none⟩,
    ⟨some 27, .alloc 84 [(.int .i64 0), (.int .i64 0), (.int .i64 0)], none⟩,
    ⟨none, .st 3 (.t 27) (.t 159), none⟩])
  (.seq (.reg [
    ⟨some 160, .fa (.t 27) 0, none⟩,
    ⟨some 161, .ld 1 false (.t 160), none⟩,
    ⟨some 162, .mv (.t 16), none⟩,
    ⟨some 163, .bin .add (.t 161) (.t 162), none⟩,
    ⟨some 164, .fa (.t 27) 0, none⟩,
    ⟨none, .st 1 (.t 164) (.t 163), none⟩])
  (.reg [
    ⟨some 165, .mv (.t 17), none⟩,
    ⟨some 166, .ld 3 true (.t 27), none⟩,
    ⟨some 167, .bsl 84 [.int .i64, .int .i64, .int .i64] 1 [(.int .i64 0), (.int .i64 0), (.int .i64 0)] [(0, 3, (.t 166))], none⟩,
    ⟨some 168, .app 84 [.int .i64, .int .i64, .int .i64] 24 (.t 165) (.t 167), none⟩,
    ⟨some 17, .mv (.t 168), none⟩]))))
  (.reg [
    ⟨some 169, .bin .add (.t 156) (.c (.int .i64 1)), none⟩,
    ⟨some 156, .mv (.t 169), none⟩])))))))
 (.seq (.reg [
   ⟨some 170, .mv (.t 17), none⟩,
   ⟨some 171, .mv (.t 13), none⟩,
   ⟨some 172, .call (.f 36) [(.t 170), (.t 171)], none⟩,
   ⟨some 173, .mv (.t 172), none⟩,
   ⟨some 174, .call (.f 33) [], some (173, true)⟩,
   ⟨some 175, .pick (.t 173) (.t 174) (.c (.bool false)), none⟩,
   ⟨some 8, .mv (.t 175), none⟩])
 .ret)))))))))))),
  [.tmp 8]⟩
theorem c6 : chkFn Tryz.prog Tryz.f6 a6 = true := by kernel_rfl

/-- besom/besomlaw05.ContactTicks -/
def a7 : AFn := ⟨3, (.seq (.reg [
   ⟨some 3, .box 87 (.t 0), none⟩,
   ⟨some 6, .mv (.c (.bool false)), none⟩])
 (.seq (.seq (.reg [
   ⟨some 14, .ld 15 true (.t 3), none⟩,
   ⟨some 15, .mv (.t 1), none⟩,
   ⟨some 16, .call (.f 37) [(.t 14), (.t 15)], none⟩])
 (.cond (.t 16) (.seq (.reg [
    ⟨some 17, .call (.f 19) [], none⟩,
    ⟨some 6, .mv (.t 17), none⟩])
  .ret)
 .skip))
 (.seq (.reg [
   ⟨some 18, .bsl 28 [.int .i64, .int .i64, .int .i64, .int .i64, .int .i64, .int .i64, .int .i64, .bool] 0 [] [], none⟩,
   ⟨some 19, .mv (.t 1), none⟩,
   ⟨some 20, .app 28 [.int .i64, .int .i64, .int .i64, .int .i64, .int .i64, .int .i64, .int .i64, .bool] 64 (.t 18) (.t 19), none⟩,
   ⟨some 7, .mv (.t 20), none⟩])
 (.seq (.reg [
   ⟨some 22, .fa (.t 3) 0, none⟩,
   ⟨some 23, .ld 7 true (.t 22), none⟩,
   ⟨some 24, .fa (.t 3) 7, none⟩,
   ⟨some 25, .ld 5 true (.t 24), none⟩,
   ⟨some 26, .mv (.t 7), none⟩,
   ⟨some 27, .fa (.t 3) 12, none⟩,
   ⟨some 28, .ld 1 false (.t 27), none⟩,
   ⟨some 29, .fa (.t 3) 13, none⟩,
   ⟨some 30, .ld 1 false (.t 29), none⟩,
   ⟨some 31, .fa (.t 3) 14, none⟩,
   ⟨some 32, .ld 1 false (.t 31), none⟩,
   ⟨some 33, .mv (.t 2), none⟩,
   ⟨some 34, .call (.f 34) [(.t 23), (.t 25), (.t 26), (.t 28), (.t 30), (.t 32), (.t 33)], none⟩,
   ⟨some 21, .mv (.t 34), none⟩,
   ⟨some 35, .ext (.t 21) 0, none⟩,
   ⟨some 36, .ext (.t 21) 1, none⟩,
   ⟨some 37, .ext (.t 21) 2, none⟩,
   ⟨some 8, .mv (.t 35), none⟩,
   ⟨some 9, .mv (.t 36), none⟩,
   ⟨some 10, .mv (.t 37), none⟩])
 (.seq (.reg [
   ⟨some 39, .ld 15 true (.t 3), none⟩,
   ⟨some 40, .call (.f 39) [(.t 39)], none⟩,
   ⟨some 41, .mv (.t 1), none⟩,
   ⟨some 42, .mv (.t 2), none⟩,
   ⟨some 43, .call (.f 38) [(.t 40), (.t 41), (.t 42)], none⟩,
   ⟨some 38, .mv (.t 43), none⟩,
   ⟨some 44, .ext (.t 38) 0, none⟩,
   ⟨some 45, .ext (.t 38) 1, none⟩,
   ⟨some 46, .ext (.t 38) 2, none⟩,
   ⟨some 11, .mv (.t 44), none⟩,
   ⟨some 12, .mv (.t 45), none⟩,
   ⟨some 13, .mv (.t 46), none⟩])
 (.seq (.reg [
   ⟨some 47, .mv (.t 8), none⟩,
   ⟨some 48, .mv (.t 11), none⟩,
   ⟨some 49, .call (.f 31) [(.t 47), (.t 48)], none⟩,
   ⟨some 50, .mv (.t 49), none⟩,
   ⟨some 51, .mv (.t 9), some (50, true)⟩,
   ⟨some 52, .mv (.t 12), some (50, true)⟩,
   ⟨some 53, .call (.f 36) [(.t 51), (.t 52)], some (50, true)⟩,
   ⟨some 54, .pick (.t 50) (.t 53) (.c (.bool false)), none⟩,
   ⟨some 55, .mv (.t 54), none⟩,
   ⟨some 56, .mv (.t 10), some (55, true)⟩,
   ⟨some 57, .mv (.t 13), some (55, true)⟩,
   ⟨some 58, .bin .eql (.t 56) (.t 57), some (55, true)⟩,
   ⟨some 59, .pick (.t 55) (.t 58) (.c (.bool false)), none⟩,
   ⟨some 60, .mv (.t 59), none⟩,
   ⟨some 61, .mv (.t 7), some (60, true)⟩,
   ⟨some 62, .mv (.t 1), some (60, true)⟩,
   ⟨some 63, .call (.f 31) [(.t 61), (.t 62)], some (60, true)⟩,
   ⟨some 64, .pick (.t 60) (.t 63) (.c (.bool false)), none⟩,
   ⟨some 65, .mv (.t 64), none⟩,
   ⟨some 66, .call (.f 19) [], some (65, true)⟩,
   ⟨some 67, .pick (.t 65) (.t 66) (.c (.bool false)), none⟩,
   ⟨some 6, .mv (.t 67), none⟩])
 .ret)))))),
  [.tmp 6]⟩
theorem c7 : chkFn Tryz.prog Tryz.f7 a7 = true := by kernel_rfl

/-- besom/besomlaw05.ContactSums -/
def a8 : AFn := ⟨2, (.seq (.reg [
   ⟨some 4, .mv (.c (.bool false)), none⟩])
 (.seq (.reg [
   ⟨some 16, .call (.f 19) [], none⟩,
   ⟨some 5, .mv (.t 16), none⟩])
 (.seq (.seq (.reg [
   ⟨some 17, .mv (.t 0), none⟩,
   ⟨some 18, .len (.t 17), none⟩,
   ⟨some 19, .bin .gtr (.t 18) (.c (.int .i64 18)), none⟩,
   ⟨some 20, .mv (.t 19), none⟩,
   ⟨some 21, .mv (.t 5), some (20, false)⟩,
   ⟨some 22, .not (.t 21), some (20, false)⟩,
   ⟨some 23, .pick (.t 20) (.c (.bool true)) (.t 22), none⟩])
 (.cond (.t 23) (.seq (.reg [
    ⟨some 24, .mv (.t 5), none⟩,
    ⟨some 4, .mv (.t 24), none⟩])
  .ret)
 .skip))
 (.seq (.drw [
   (⟨some 25, .bld [(.int .i64 0), (.int .i64 0)] [(0, 1, (.c (.int .i64 (-6553600000)))), (1, 1, (.c (.int .i64 (-6553600000))))], none⟩, []),
   (⟨some 26, .msl 3 [.int .i64] 8 (0) (.c (.int .i64 9)) (.c (.int .i64 9)), none⟩, []),
   (⟨some 27, .msl 3 [.int .i64] 8 (0) (.c (.int .i64 9)) (.c (.int .i64 9)), none⟩, []),
   (⟨some 28, .bld [(.int .i64 0), (.int .i64 0), (.int .i64 0), (.int .i64 0), (.int .i64 0), .nsl, .nsl] [(0, 2, (.t 25)), (2, 1, (.c (.int .i64 6553600000))), (3, 1, (.c (.int .i64 3))), (4, 1, (.c (.int .i64 3))), (5, 1, (.t 26)), (6, 1, (.t 27))], none⟩, [0, 1, 2]),
   (⟨some 6, .alloc 67 [(.int .i64 0), (.int .i64 0), (.int .i64 0), (.int .i64 0), (.int .i64 0), .nsl, .nsl], none⟩, []),
   (⟨none, .st 7 (.t 6) (.t 28), none⟩, [4, 3, 0, 1, 2])])
 (.seq (.seq (.reg [
   ⟨some 29, .fa (.t 6) 6, none⟩,
   ⟨some 30, .ld 1 false (.t 29), none⟩,
   ⟨some 31, .len (.t 30), none⟩,
   ⟨some 32, .mv (.c (.int .i64 0)), none⟩])
 (.blk 0 (.loop 0 (.seq (.reg [
    ⟨some 33, .bin .lss (.t 32) (.t 31), none⟩])
  (.seq (.cond (.t 33) .skip
  (.exit 0))
  (.seq (.blk 1 (.seq (.reg [
    ⟨some 34, .mv (.t 32), none⟩,
    ⟨some 7, .mv (.t 34), none⟩])
  (.reg [
    ⟨some 35, .fa (.t 6) 6, none⟩,
    ⟨some 36, .ld 1 false (.t 35), none⟩,
    ⟨some 37, .mv (.t 7), none⟩,
    ⟨some 38, .ia (.t 36) (.t 37) 1, none⟩,
    ⟨none, .st 1 (.t 38) (.c (.int .i64 1000)), none⟩])))
  (.reg [
    ⟨some 39, .bin .add (.t 32) (.c (.int .i64 1)), none⟩,
    ⟨some 32, .mv (.t 39), none⟩])))))))
 (.seq (.reg [
   ⟨some 41, .ld 7 true (.t 6), none⟩,
   ⟨some 42, .bld [(.int .i64 0), (.int .i64 0), (.int .i64 0), (.int .i64 0), (.int .i64 0)] [(0, 1, (.c (.int .i64 1))), (1, 1, (.c (.int .i64 1))), (2, 1, (.c (.int .i64 1000)))], none⟩,
   ⟨some 43, .mv (.t 0), none⟩,
   ⟨some 44, .mv (.t 1), none⟩,
   ⟨some 45, .call (.f 34) [(.t 41), (.t 42), (.t 43), (.c .nsl), (.c (.int .i64 (-1))), (.t 44), (.c (.int .i64 7))], none⟩,
   ⟨some 40, .mv (.t 45), none⟩,
   ⟨some 46, .ext (.t 40) 0, none⟩,
   ⟨some 47, .ext (.t 40) 1, none⟩,
   ⟨some 48, .ext (.t 40) 2, none⟩,
   ⟨some 8, .mv (.t 46), none⟩,
   ⟨some 9, .mv (.t 47), none⟩,
   ⟨some 10, .mv (.t 48), none⟩])
 (.seq (.seq (.reg [
   ⟨some 49, .mv (.t 10), none⟩,
   ⟨some 50, .bin .neq (.t 49) (.c (.int .i64 0)), none⟩])
 (.cond (.t 50) (.seq (.reg [
    ⟨some 51, .mv (.t 5), none⟩,
    ⟨some 52, .mv (.t 51), none⟩,
    ⟨some 53, .mv (.t 8), some (52, true)⟩,
    ⟨some 54, .len (.t 53), some (52, true)⟩,
    ⟨some 55, .mv (.t 9), some (52, true)⟩,
    ⟨some 56, .len (.t 55), some (52, true)⟩,
    ⟨some 57, .bin .add (.t 54) (.t 56), some (52, true)⟩,
    ⟨some 58, .bin .eql (.t 57) (.c (.int .i64 0)), some (52, true)⟩,
    ⟨some 59, .pick (.t 52) (.t 58) (.c (.bool false)), none⟩,
    ⟨some 4, .mv (.t 59), none⟩])
  .ret)
 .skip))
 (.seq (.seq (.reg [
   ⟨some 60, .mv (.t 8), none⟩,
   ⟨some 61, .len (.t 60), none⟩,
   ⟨some 62, .mv (.t 0), none⟩,
   ⟨some 63, .len (.t 62), none⟩,
   ⟨some 64, .bin .neq (.t 61) (.t 63), none⟩])
 (.cond (.t 64) (.seq (.reg [
    ⟨some 4, .mv (.c (.bool false)), none⟩])
  .ret)
 .skip))
 (.seq (.seq (.reg [
   ⟨some 65, .mv (.t 8), none⟩,
   ⟨some 66, .len (.t 65), none⟩,
   ⟨some 67, .mv (.c (.int .i64 0)), none⟩])
 (.blk 2 (.loop 1 (.seq (.reg [
    ⟨some 68, .bin .lss (.t 67) (.t 66), none⟩])
  (.seq (.cond (.t 68) .skip
  (.exit 2))
  (.seq (.blk 3 (.seq (.reg [
    ⟨some 69, .mv (.t 67), none⟩,
    ⟨some 11, .mv (.t 69), none⟩])
  (.seq (.drw [
    (⟨some 70, .mv (.t 8), none⟩, []),
    (⟨some 71, .mv (.t 11), none⟩, []),
    (⟨some 72, .ia (.t 70) (.t 71) 8, none⟩, [0, 1]),
    (⟨some 73, .fa (.t 72) 7, none⟩, [2, 0, 1]),
    (⟨some 74, .ld 1 false (.t 73), none⟩, [3, 2, 0, 1]),
    (⟨some 75, .mv (.t 0), none⟩, []),
    (⟨some 76, .mv (.t 11), none⟩, []),
    (⟨some 77, .ia (.t 75) (.t 76) 8, none⟩, [5, 6]),
    (⟨some 78, .fa (.t 77) 7, none⟩, [7, 5, 6]),
    (⟨some 79, .ld 1 false (.t 78), none⟩, [8, 7, 5, 6]),
    (⟨some 80, .binb true (.t 74) (.t 79), none⟩, [4, 3, 2, 0, 1, 9, 8, 7, 5, 6])])
  (.cond (.t 80) (.seq (.reg [
     ⟨some 81, .mv (.t 5), none⟩,
     ⟨some 4, .mv (.t 81), none⟩])
   .ret)
  .skip))))
  (.reg [
    ⟨some 82, .bin .add (.t 67) (.c (.int .i64 1)), none⟩,
    ⟨some 67, .mv (.t 82), none⟩])))))))
 (.seq (.reg [
   ⟨some 84, .mv (.t 0), none⟩,
   ⟨some 85, .call (.f 20) [(.t 84)], none⟩,
   ⟨some 83, .mv (.t 85), none⟩,
   ⟨some 86, .ext (.t 83) 0, none⟩,
   ⟨some 87, .ext (.t 83) 1, none⟩,
   ⟨some 12, .alloc 24 [(.int .i64 0), (.int .i64 0)], none⟩,
   ⟨none, .st 2 (.t 12) (.t 86), none⟩,
   ⟨some 13, .mv (.t 87), none⟩])
 (.seq (.reg [
   ⟨some 89, .mv (.t 8), none⟩,
   ⟨some 90, .call (.f 20) [(.t 89)], none⟩,
   ⟨some 88, .mv (.t 90), none⟩,
   ⟨some 91, .ext (.t 88) 0, none⟩,
   ⟨some 92, .ext (.t 88) 1, none⟩,
   ⟨some 14, .alloc 24 [(.int .i64 0), (.int .i64 0)], none⟩,
   ⟨none, .st 2 (.t 14) (.t 91), none⟩,
   ⟨some 15, .mv (.t 92), none⟩])
 (.seq (.reg [
   ⟨some 93, .mv (.t 5), none⟩,
   ⟨some 94, .mv (.t 93), none⟩,
   ⟨some 95, .mv (.t 13), some (94, true)⟩,
   ⟨some 96, .bin .eql (.t 95) (.c (.int .i64 0)), some (94, true)⟩,
   ⟨some 97, .pick (.t 94) (.t 96) (.c (.bool false)), none⟩,
   ⟨some 98, .mv (.t 97), none⟩,
   ⟨some 99, .mv (.t 15), some (98, true)⟩,
   ⟨some 100, .bin .eql (.t 99) (.c (.int .i64 0)), some (98, true)⟩,
   ⟨some 101, .pick (.t 98) (.t 100) (.c (.bool false)), none⟩,
   ⟨some 102, .mv (.t 101), none⟩,
   ⟨some 103, .ld 2 true (.t 12), some (102, true)⟩,
   ⟨some 104, .ld 2 true (.t 14), some (102, true)⟩,
   ⟨some 105, .eqa false [.int .i64, .int .i64] (.t 103) (.t 104), some (102, true)⟩,
   ⟨some 106, .pick (.t 102) (.t 105) (.c (.bool false)), none⟩,
   ⟨some 4, .mv (.t 106), none⟩])
 .ret)))))))))))),
  [.tmp 4]⟩
theorem c8 : chkFn Tryz.prog Tryz.f8 a8 = true := by kernel_rfl

/-- besom/besomlaw05.ContactShots -/
def a9 : AFn := ⟨3, (.seq (.reg [
   ⟨some 3, .box 87 (.t 0), none⟩,
   ⟨some 6, .mv (.c (.bool false)), none⟩])
 (.seq (.seq (.reg [
   ⟨some 15, .ld 15 true (.t 3), none⟩,
   ⟨some 16, .mv (.t 1), none⟩,
   ⟨some 17, .call (.f 37) [(.t 15), (.t 16)], none⟩,
   ⟨some 18, .mv (.t 17), none⟩,
   ⟨some 19, .mv (.t 2), some (18, false)⟩,
   ⟨some 20, .bin .gtr (.t 19) (.c (.int .i64 40)), some (18, false)⟩,
   ⟨some 21, .mv (.t 20), some (18, false)⟩,
   ⟨some 22, .mv (.t 2), some (21, true)⟩,
   ⟨some 23, .bin .leq (.t 22) (.c (.int .i64 6000)), some (21, true)⟩,
   ⟨some 24, .pick (.t 21) (.t 23) (.c (.bool false)), some (18, false)⟩,
   ⟨some 25, .pick (.t 18) (.c (.bool true)) (.t 24), none⟩])
 (.cond (.t 25) (.seq (.reg [
    ⟨some 26, .call (.f 19) [], none⟩,
    ⟨some 6, .mv (.t 26), none⟩])
  .ret)
 .skip))
 (.seq (.reg [
   ⟨some 28, .fa (.t 3) 0, none⟩,
   ⟨some 29, .ld 7 true (.t 28), none⟩,
   ⟨some 30, .fa (.t 3) 7, none⟩,
   ⟨some 31, .ld 5 true (.t 30), none⟩,
   ⟨some 32, .mv (.t 1), none⟩,
   ⟨some 33, .fa (.t 3) 12, none⟩,
   ⟨some 34, .ld 1 false (.t 33), none⟩,
   ⟨some 35, .fa (.t 3) 13, none⟩,
   ⟨some 36, .ld 1 false (.t 35), none⟩,
   ⟨some 37, .fa (.t 3) 14, none⟩,
   ⟨some 38, .ld 1 false (.t 37), none⟩,
   ⟨some 39, .mv (.t 2), none⟩,
   ⟨some 40, .call (.f 35) [(.t 29), (.t 31), (.t 32), (.t 34), (.t 36), (.t 38), (.t 39)], none⟩,
   ⟨some 27, .mv (.t 40), none⟩,
   ⟨some 41, .ext (.t 27) 0, none⟩,
   ⟨some 42, .ext (.t 27) 1, none⟩,
   ⟨some 43, .ext (.t 27) 2, none⟩,
   ⟨some 44, .ext (.t 27) 3, none⟩,
   ⟨some 7, .mv (.t 41), none⟩,
   ⟨some 8, .mv (.t 42), none⟩,
   ⟨some 9, .mv (.t 43), none⟩,
   ⟨some 10, .mv (.t 44), none⟩])
 (.seq (.reg [
   ⟨some 46, .ld 15 true (.t 3), none⟩,
   ⟨some 47, .call (.f 39) [(.t 46)], none⟩,
   ⟨some 48, .mv (.t 1), none⟩,
   ⟨some 49, .mv (.t 2), none⟩,
   ⟨some 50, .call (.f 40) [(.t 47), (.t 48), (.t 49)], none⟩,
   ⟨some 45, .mv (.t 50), none⟩,
   ⟨some 51, .ext (.t 45) 0, none⟩,
   ⟨some 52, .ext (.t 45) 1, none⟩,
   ⟨some 53, .ext (.t 45) 2, none⟩,
   ⟨some 54, .ext (.t 45) 3, none⟩,
   ⟨some 11, .mv (.t 51), none⟩,
   ⟨some 12, .mv (.t 52), none⟩,
   ⟨some 13, .mv (.t 53), none⟩,
   ⟨some 14, .mv (.t 54), none⟩])
 (.seq (.reg [
   ⟨some 55, .mv (.t 7), none⟩,
   ⟨some 56, .mv (.t 11), none⟩,
   ⟨some 57, .call (.f 31) [(.t 55), (.t 56)], none⟩,
   ⟨some 58, .mv (.t 57), none⟩,
   ⟨some 59, .mv (.t 8), some (58, true)⟩,
   ⟨some 60, .mv (.t 12), some (58, true)⟩,
   ⟨some 61, .bin .eql (.t 59) (.t 60), some (58, true)⟩,
   ⟨some 62, .pick (.t 58) (.t 61) (.c (.bool false)), none⟩,
   ⟨some 63, .mv (.t 62), none⟩,
   ⟨some 64, .mv (.t 9), some (63, true)⟩,
   ⟨some 65, .mv (.t 13), some (63, true)⟩,
   ⟨some 66, .call (.f 36) [(.t 64), (.t 65)], some (63, true)⟩,
   ⟨some 67, .pick (.t 63) (.t 66) (.c (.bool false)), none⟩,
   ⟨some 68, .mv (.t 67), none⟩,
   ⟨some 69, .mv (.t 10), some (68, true)⟩,
   ⟨some 70, .mv (.t 14), some (68, true)⟩,
   ⟨some 71, .bin .eql (.t 69) (.t 70), some (68, true)⟩,
   ⟨some 72, .pick (.t 68) (.t 71) (.c (.bool false)), none⟩,
   ⟨some 73, .mv (.t 72), none⟩,
   ⟨some 74, .call (.f 19) [], some (73, true)⟩,
   ⟨some 75, .pick (.t 73) (.t 74) (.c (.bool false)), none⟩,
   ⟨some 6, .mv (.t 75), none⟩])
 .ret))))),
  [.tmp 6]⟩
theorem c9 : chkFn Tryz.prog Tryz.f9 a9 = true := by kernel_rfl

/-- besom/besomlaw05.ContactAlone -/
def a10 : AFn := ⟨3, (.seq (.reg [
   ⟨some 3, .box 87 (.t 0), none⟩,
   ⟨some 6, .mv (.c (.bool false)), none⟩])
 (.seq (.reg [
   ⟨some 20, .call (.f 19) [], none⟩,
   ⟨some 7, .mv (.t 20), none⟩])
 (.seq (.reg [
   ⟨some 21, .mv (.t 2), none⟩,
   ⟨some 22, .cv .i64 (.t 21), none⟩,
   ⟨some 23, .bin .rem (.t 22) (.c (.int .i64 41)), none⟩,
   ⟨some 8, .mv (.t 23), none⟩])
 (.seq (.seq (.reg [
   ⟨some 24, .ld 15 true (.t 3), none⟩,
   ⟨some 25, .mv (.t 1), none⟩,
   ⟨some 26, .call (.f 37) [(.t 24), (.t 25)], none⟩,
   ⟨some 27, .mv (.t 26), none⟩,
   ⟨some 28, .mv (.t 7), some (27, false)⟩,
   ⟨some 29, .not (.t 28), some (27, false)⟩,
   ⟨some 30, .pick (.t 27) (.c (.bool true)) (.t 29), none⟩])
 (.cond (.t 30) (.seq (.reg [
    ⟨some 31, .mv (.t 7), none⟩,
    ⟨some 6, .mv (.t 31), none⟩])
  .ret)
 .skip))
 (.seq (.reg [
   ⟨some 33, .fa (.t 3) 0, none⟩,
   ⟨some 34, .ld 7 true (.t 33), none⟩,
   ⟨some 35, .fa (.t 3) 7, none⟩,
   ⟨some 36, .ld 5 true (.t 35), none⟩,
   ⟨some 37, .mv (.t 1), none⟩,
   ⟨some 38, .fa (.t 3) 12, none⟩,
   ⟨some 39, .ld 1 false (.t 38), none⟩,
   ⟨some 40, .fa (.t 3) 13, none⟩,
   ⟨some 41, .ld 1 false (.t 40), none⟩,
   ⟨some 42, .fa (.t 3) 14, none⟩,
   ⟨some 43, .ld 1 false (.t 42), none⟩,
   ⟨some 44, .mv (.t 8), none⟩,
   ⟨some 45, .call (.f 35) [(.t 34), (.t 36), (.t 37), (.t 39), (.t 41), (.t 43), (.t 44)], none⟩,
   ⟨some 32, .mv (.t 45), none⟩,
   ⟨some 46, .ext (.t 32) 0, none⟩,
   ⟨some 47, .ext (.t 32) 1, none⟩,
   ⟨some 48, .ext (.t 32) 2, none⟩,
   ⟨some 49, .ext (.t 32) 3, none⟩,
   ⟨some 9, .mv (.t 46), none⟩,
   ⟨some 10, .mv (.t 47), none⟩,
   ⟨some 11, .mv (.t 48), none⟩,
   ⟨some 12, .mv (.t 49), none⟩])
 (.seq (.seq (.reg [
   ⟨some 50, .mv (.t 12), none⟩,
   ⟨some 51, .bin .neq (.t 50) (.c (.int .i64 0)), none⟩])
 (.cond (.t 51) (.seq (.reg [
    ⟨some 52, .mv (.t 7), none⟩,
    ⟨some 53, .mv (.t 52), none⟩,
    ⟨some 54, .mv (.t 9), some (53, true)⟩,
    ⟨some 55, .len (.t 54), some (53, true)⟩,
    ⟨some 56, .bin .eql (.t 55) (.c (.int .i64 0)), some (53, true)⟩,
    ⟨some 57, .pick (.t 53) (.t 56) (.c (.bool false)), none⟩,
    ⟨some 6, .mv (.t 57), none⟩])
  .ret)
 .skip))
 (.seq (.reg [
   ⟨some 58, .mv (.t 1), none⟩,
   ⟨some 59, .len (.t 58), none⟩,
   ⟨some 60, .msl 4 [.bool] 1 (false) (.t 59) (.t 59), none⟩,
   ⟨some 13, .mv (.t 60), none⟩])
 (.seq (.seq (.reg [
   ⟨some 61, .mv (.t 11), none⟩,
   ⟨some 62, .len (.t 61), none⟩,
   ⟨some 63, .mv (.c (.int .i64 0)), none⟩])
 (.blk 0 (.loop 0 (.seq (.reg [
    ⟨some 64, .bin .lss (.t 63) (.t 62), none⟩])
  (.seq (.cond (.t 64) .skip
  (.exit 0))
  (.seq (.blk 1 (.seq (.reg [
    ⟨some 65, .mv (.t 63), none⟩,
    ⟨some 66, .ia (.t 61) (.t 63) 3, none⟩,
    ⟨some 67, .ld 3 true (.t 66), none⟩,
    ⟨some 15, .alloc 84 [(.int .i64 0), (.int .i64 0), (.int .i64 0)], none⟩,
    ⟨some 14, .mv (.t 65), none⟩,
    ⟨none, .st 3 (.t 15) (.t 67), none⟩])
  (.seq (.seq (.drw [
    (⟨some 68, .fa (.t 15) 1, none⟩, []),
    (⟨some 69, .ld 1 false (.t 68), none⟩, [0]),
    (⟨some 70, .bin .lss (.t 69) (.c (.int .i64 0)), none⟩, [1, 0]),
    (⟨some 71, .mv (.t 70), none⟩, [2, 1, 0]),
    (⟨some 72, .fa (.t 15) 1, some (71, false)⟩, [3, 2, 1, 0]),
    (⟨some 73, .ld 1 false (.t 72), some (71, false)⟩, [4, 3, 2, 1, 0]),
    (⟨some 74, .fa (.t 15) 2, some (71, false)⟩, [3, 2, 1, 0]),
    (⟨some 75, .ld 1 false (.t 74), some (71, false)⟩, [6, 3, 2, 1, 0]),
    (⟨some 76, .bin .geq (.t 73) (.t 75), some (71, false)⟩, [5, 4, 3, 2, 1, 0, 7, 6]),
    (⟨some 77, .pick (.t 71) (.c (.bool true)) (.t 76), none⟩, [3, 2, 1, 0, 8, 5, 4, 7, 6]),
    (⟨some 78, .mv (.t 77), none⟩, [9, 3, 2, 1, 0, 8, 5, 4, 7, 6]),
    (⟨some 79, .fa (.t 15) 2, some (78, false)⟩, [10, 9, 3, 2, 1, 0, 8, 5, 4, 7, 6]),
    (⟨some 80, .ld 1 false (.t 79), some (78, false)⟩, [11, 10, 9, 3, 2, 1, 0, 8, 5, 4, 7, 6]),
    (⟨some 81, .mv (.t 1), some (78, false)⟩, [10, 9, 3, 2, 1, 0, 8, 5, 4, 7, 6]),
    (⟨some 82, .len (.t 81), some (78, false)⟩, [13, 10, 9, 3, 2, 1, 0, 8, 5, 4, 7, 6]),
    (⟨some 83, .bin .geq (.t 80) (.t 82), some (78, false)⟩, [12, 11, 10, 9, 3, 2, 1, 0, 8, 5, 4, 7, 6, 14, 13]),
    (⟨some 84, .pick (.t 78) (.c (.bool true)) (.t 83), none⟩, [10, 9, 3, 2, 1, 0, 8, 5, 4, 7, 6, 15, 12, 11, 14, 13]),
    (⟨some 85, .mv (.t 84), none⟩, [16, 10, 9, 3, 2, 1, 0, 8, 5, 4, 7, 6, 15, 12, 11, 14, 13]),
    (⟨some 86, .fa (.t 15) 0, some (85, false)⟩, [17, 16, 10, 9, 3, 2, 1, 0, 8, 5, 4, 7, 6, 15, 12, 11, 14, 13]),
    (⟨some 87, .ld 1 false (.t 86), some (85, false)⟩, [18, 17, 16, 10, 9, 3, 2, 1, 0, 8, 5, 4, 7, 6, 15, 12, 11, 14, 13]),
    (⟨some 88, .bin .lss (.t 87) (.c (.int .i64 0)), some (85, false)⟩, [19, 18, 17, 16, 10, 9, 3, 2, 1, 0, 8, 5, 4, 7, 6, 15, 12, 11, 14, 13]),
    (⟨some 89, .pick (.t 85) (.c (.bool true)) (.t 88), none⟩, [17, 16, 10, 9, 3, 2, 1, 0, 8, 5, 4, 7, 6, 15, 12, 11, 14, 13, 20, 19, 18]),
    (⟨some 90, .mv (.t 89), none⟩, [21, 17, 16, 10, 9, 3, 2, 1, 0, 8, 5, 4, 7, 6, 15, 12, 11, 14, 13, 20, 19, 18]),
    (⟨some 91, .fa (.t 15) 0, some (90, false)⟩, [22, 21, 17, 16, 10, 9, 3, 2, 1, 0, 8, 5, 4, 7, 6, 15, 12, 11, 14, 13, 20, 19, 18]),
    (⟨some 92, .ld 1 false (.t 91), some (90, false)⟩, [23, 22, 21, 17, 16, 10, 9, 3, 2, 1, 0, 8, 5, 4, 7, 6, 15, 12, 11, 14, 13, 20, 19, 18]),
    (⟨some 93, .mv (.t 10), some (90, false)⟩, [22, 21, 17, 16, 10, 9, 3, 2, 1, 0, 8, 5, 4, 7, 6, 15, 12, 11, 14, 13, 20, 19, 18]),
    (⟨some 94, .bin .geq (.t 92) (.t 93), some (90, false)⟩, [24, 23, 22, 21, 17, 16, 10, 9, 3, 2, 1, 0, 8, 5, 4, 7, 6, 15, 12, 11, 14, 13, 20, 19, 18, 25]),
    (⟨some 95, .pick (.t 90) (.c (.bool true)) (.t 94), none⟩, [22, 21, 17, 16, 10, 9, 3, 2, 1, 0, 8, 5, 4, 7, 6, 15, 12, 11, 14, 13, 20, 19, 18, 26, 24, 23, 25]),
    (⟨some 96, .mv (.t 95), none⟩, [27, 22, 21, 17, 16, 10, 9, 3, 2, 1, 0, 8, 5, 4, 7, 6, 15, 12, 11, 14, 13, 20, 19, 18, 26, 24, 23, 25]),
    (⟨some 97, .mv (.t 14), some (96, false)⟩, [28, 27, 22, 21, 17, 16, 10, 9, 3, 2, 1, 0, 8, 5, 4, 7, 6, 15, 12, 11, 14, 13, 20, 19, 18, 26, 24, 23, 25]),
    (⟨some 98, .bin .gtr (.t 97) (.c (.int .i64 0)), some (96, false)⟩, [29, 28, 27, 22, 21, 17, 16, 10, 9, 3, 2, 1, 0, 8, 5, 4, 7, 6, 15, 12, 11, 14, 13, 20, 19, 18, 26, 24, 23, 25]),
    (⟨some 99, .mv (.t 98), some (96, false)⟩, [30, 29, 28, 27, 22, 21, 17, 16, 10, 9, 3, 2, 1, 0, 8, 5, 4, 7, 6, 15, 12, 11, 14, 13, 20, 19, 18, 26, 24, 23, 25]),
    (⟨some 100, .fa (.t 15) 0, some (99, true)⟩, [31, 30, 29, 28, 27, 22, 21, 17, 16, 10, 9, 3, 2, 1, 0, 8, 5, 4, 7, 6, 15, 12, 11, 14, 13, 20, 19, 18, 26, 24, 23, 25]),
    (⟨some 101, .ld 1 false (.t 100), some (99, true)⟩, [32, 31, 30, 29, 28, 27, 22, 21, 17, 16, 10, 9, 3, 2, 1, 0, 8, 5, 4, 7, 6, 15, 12, 11, 14, 13, 20, 19, 18, 26, 24, 23, 25]),
    (⟨some 102, .mv (.t 11), some (99, true)⟩, [31, 30, 29, 28, 27, 22, 21, 17, 16, 10, 9, 3, 2, 1, 0, 8, 5, 4, 7, 6, 15, 12, 11, 14, 13, 20, 19, 18, 26, 24, 23, 25]),
    (⟨some 103, .mv (.t 14), some (99, true)⟩, [31, 30, 29, 28, 27, 22, 21, 17, 16, 10, 9, 3, 2, 1, 0, 8, 5, 4, 7, 6, 15, 12, 11, 14, 13, 20, 19, 18, 26, 24, 23, 25]),
    (⟨some 104, .bin .sub (.t 103) (.c (.int .i64 1)), some (99, true)⟩, [35, 31, 30, 29, 28, 27, 22, 21, 17, 16, 10, 9, 3, 2, 1, 0, 8, 5, 4, 7, 6, 15, 12, 11, 14, 13, 20, 19, 18, 26, 24, 23, 25]),
    (⟨some 105, .ia (.t 102) (.t 104) 3, some (99, true)⟩, [34, 31, 30, 29, 28, 27, 22, 21, 17, 16, 10, 9, 3, 2, 1, 0, 8, 5, 4, 7, 6, 15, 12, 11, 14, 13, 20, 19, 18, 26, 24, 23, 25, 36, 35]),
    (⟨some 106, .fa (.t 105) 0, some (99, true)⟩, [37, 34, 31, 30, 29, 28, 27, 22, 21, 17, 16, 10, 9, 3, 2, 1, 0, 8, 5, 4, 7, 6, 15, 12, 11, 14, 13, 20, 19, 18, 26, 24, 23, 25, 36, 35]),
    (⟨some 107, .ld 1 false (.t 106), some (99, true)⟩, [38, 37, 34, 31, 30, 29, 28, 27, 22, 21, 17, 16, 10, 9, 3, 2, 1, 0, 8, 5, 4, 7, 6, 15, 12, 11, 14, 13, 20, 19, 18, 26, 24, 23, 25, 36, 35]),
    (⟨some 108, .bin .lss (.t 101) (.t 107), some (99, true)⟩, [33, 32, 31, 30, 29, 28, 27, 22, 21, 17, 16, 10, 9, 3, 2, 1, 0, 8, 5, 4, 7, 6, 15, 12, 11, 14, 13, 20, 19, 18, 26, 24, 23, 25, 39, 38, 37, 34, 36, 35]),
    (⟨some 109, .pick (.t 99) (.t 108) (.c (.bool false)), some (96, false)⟩, [31, 30, 29, 28, 27, 22, 21, 17, 16, 10, 9, 3, 2, 1, 0, 8, 5, 4, 7, 6, 15, 12, 11, 14, 13, 20, 19, 18, 26, 24, 23, 25, 40, 33, 32, 39, 38, 37, 34, 36, 35]),
    (⟨some 110, .pick (.t 96) (.c (.bool true)) (.t 109), none⟩, [28, 27, 22, 21, 17, 16, 10, 9, 3, 2, 1, 0, 8, 5, 4, 7, 6, 15, 12, 11, 14, 13, 20, 19, 18, 26, 24, 23, 25, 41, 31, 30, 29, 40, 33, 32, 39, 38, 37, 34, 36, 35])])
  (.cond (.t 110) (.seq (.reg [
     ⟨some 6, .mv (.c (.bool false)), none⟩])
   .ret)
  .skip))
  (.drw [
    (⟨some 111, .mv (.t 13), none⟩, []),
    (⟨some 112, .fa (.t 15) 1, none⟩, []),
    (⟨some 113, .ld 1 false (.t 112), none⟩, [1]),
    (⟨some 114, .mv (.t 13), none⟩, []),
    (⟨some 115, .fa (.t 15) 2, none⟩, []),
    (⟨some 116, .ld 1 false (.t 115), none⟩, [4]),
    (⟨some 117, .ia (.t 111) (.t 113) 1, none⟩, [0, 2, 1]),
    (⟨none, .st 1 (.t 117) (.c (.bool true)), none⟩, [6, 0, 2, 1]),
    (⟨some 118, .ia (.t 114) (.t 116) 1, none⟩, [3, 5, 4, 0, 1, 2, 6, 7]),
    (⟨none, .st 1 (.t 118) (.c (.bool true)), none⟩, [8, 3, 5, 4, 0, 1, 2, 6, 7])]))))
  (.reg [
    ⟨some 119, .bin .add (.t 63) (.c (.int .i64 1)), none⟩,
    ⟨some 63, .mv (.t 119), none⟩])))))))
 (.seq (.seq (.reg [
   ⟨some 120, .mv (.t 9), none⟩,
   ⟨some 121, .len (.t 120), none⟩,
   ⟨some 122, .mv (.t 1), none⟩,
   ⟨some 123, .len (.t 122), none⟩,
   ⟨some 124, .bin .neq (.t 121) (.t 123), none⟩])
 (.cond (.t 124) (.seq (.reg [
    ⟨some 6, .mv (.c (.bool false)), none⟩])
  .ret)
 .skip))
 (.seq (.seq (.reg [
   ⟨some 125, .mv (.t 1), none⟩,
   ⟨some 126, .len (.t 125), none⟩,
   ⟨some 127, .mv (.c (.int .i64 0)), none⟩])
 (.blk 2 (.loop 1 (.seq (.reg [
    ⟨some 128, .bin .lss (.t 127) (.t 126), none⟩])
  (.seq (.cond (.t 128) .skip
  (.exit 2))
  (.seq (.blk 3 (.seq (.reg [
    ⟨some 129, .mv (.t 127), none⟩,
    ⟨some 16, .mv (.t 129), none⟩])
  (.seq (.reg [
    ⟨some 131, .mv (.t 1), none⟩,
    ⟨some 132, .mv (.t 16), none⟩,
    ⟨some 133, .ia (.t 131) (.t 132) 8, none⟩,
    ⟨some 134, .ld 8 true (.t 133), none⟩,
    ⟨some 135, .call (.f 16) [(.t 134)], none⟩,
    ⟨some 130, .mv (.t 135), none⟩,
    ⟨some 136, .ext (.t 130) 0, none⟩,
    ⟨some 137, .ext (.t 130) 1, none⟩,
    ⟨some 17, .mv (.t 136), none⟩,
    ⟨some 18, .mv (.t 137), none⟩])
  (.seq (.reg [
    ⟨some 138, .mv (.t 1), none⟩,
    ⟨some 139, .mv (.t 16), none⟩,
    ⟨some 140, .ia (.t 138) (.t 139) 8, none⟩,
    ⟨some 141, .fa (.t 140) 2, none⟩,
    ⟨some 142, .ld 5 true (.t 141), none⟩,
    ⟨some 143, .call (.f 41) [(.t 142)], none⟩,
    ⟨some 144, .mv (.t 143), none⟩,
    ⟨some 145, .mv (.t 1), some (144, true)⟩,
    ⟨some 146, .mv (.t 16), some (144, true)⟩,
    ⟨some 147, .ia (.t 145) (.t 146) 8, some (144, true)⟩,
    ⟨some 148, .fa (.t 147) 7, some (144, true)⟩,
    ⟨some 149, .ld 1 false (.t 148), some (144, true)⟩,
    ⟨some 150, .not (.t 149), some (144, true)⟩,
    ⟨some 151, .pick (.t 144) (.t 150) (.c (.bool false)), none⟩,
    ⟨some 19, .mv (.t 151), none⟩])
  (.seq (.seq (.reg [
    ⟨some 152, .mv (.t 18), none⟩,
    ⟨some 153, .bin .neq (.t 152) (.c (.int .i64 0)), none⟩])
  (.cond (.t 153) (.seq (.reg [
     ⟨some 6, .mv (.c (.bool false)), none⟩])
   .ret)
  .skip))
  (.seq (.seq (.reg [
    ⟨some 154, .mv (.t 19), none⟩,
    ⟨some 155, .mv (.t 154), none⟩,
    ⟨some 156, .mv (.t 17), some (155, true)⟩,
    ⟨some 157, .pick (.t 155) (.t 156) (.c (.bool false)), none⟩,
    ⟨some 158, .mv (.t 157), none⟩,
    ⟨some 159, .mv (.t 13), some (158, false)⟩,
    ⟨some 160, .mv (.t 16), some (158, false)⟩,
    ⟨some 161, .ia (.t 159) (.t 160) 1, some (158, false)⟩,
    ⟨some 162, .ld 1 false (.t 161), some (158, false)⟩,
    ⟨some 163, .pick (.t 158) (.c (.bool true)) (.t 162), none⟩])
  (.cond (.t 163) (.exit 3)
  .skip))
  (.seq (.drw [
    (⟨some 164, .ld 15 true (.t 3), none⟩, []),
    (⟨some 165, .mv (.t 1), none⟩, []),
    (⟨some 166, .mv (.t 16), none⟩, []),
    (⟨some 167, .mv (.t 10), none⟩, []),
    (⟨some 168, .mv (.t 9), none⟩, []),
    (⟨some 169, .mv (.t 16), none⟩, []),
    (⟨some 170, .ia (.t 168) (.t 169) 8, none⟩, [4, 5]),
    (⟨some 171, .ld 8 true (.t 170), none⟩, [6, 4, 5]),
    (⟨some 172, .call (.f 42) [(.t 164), (.t 165), (.t 166), (.t 167), (.t 171)], none⟩, [0, 1, 2, 3, 7, 6, 4, 5]),
    (⟨some 173, .not (.t 172), none⟩, [8, 0, 1, 2, 3, 7, 6, 4, 5])])
  (.cond (.t 173) (.seq (.reg [
     ⟨some 6, .mv (.c (.bool false)), none⟩])
   .ret)
  .skip))))))))
  (.reg [
    ⟨some 174, .bin .add (.t 127) (.c (.int .i64 1)), none⟩,
    ⟨some 127, .mv (.t 174), none⟩])))))))
 (.seq (.reg [
   ⟨some 175, .mv (.t 7), none⟩,
   ⟨some 6, .mv (.t 175), none⟩])
 .ret))))))))))),
  [.tmp 6]⟩
theorem c10 : chkFn Tryz.prog Tryz.f10 a10 = true := by kernel_rfl

/-- besom/besomlaw05.ContactMirrors -/
def a11 : AFn := ⟨5, (.seq (.reg [
   ⟨some 5, .box 69 (.t 0), none⟩,
   ⟨some 10, .mv (.c (.bool false)), none⟩])
 (.seq (.reg [
   ⟨some 23, .call (.f 19) [], none⟩,
   ⟨some 11, .mv (.t 23), none⟩])
 (.seq (.seq (.reg [
   ⟨some 24, .mv (.t 2), none⟩,
   ⟨some 25, .len (.t 24), none⟩,
   ⟨some 26, .bin .gtr (.t 25) (.c (.int .i64 18)), none⟩,
   ⟨some 27, .mv (.t 26), none⟩,
   ⟨some 28, .mv (.t 11), some (27, false)⟩,
   ⟨some 29, .not (.t 28), some (27, false)⟩,
   ⟨some 30, .pick (.t 27) (.c (.bool true)) (.t 29), none⟩])
 (.cond (.t 30) (.seq (.reg [
    ⟨some 31, .mv (.t 11), none⟩,
    ⟨some 10, .mv (.t 31), none⟩])
  .ret)
 .skip))
 (.seq (.drw [
   (⟨some 32, .bld [(.int .i64 0), (.int .i64 0)] [(0, 1, (.c (.int .i64 (-6553600000)))), (1, 1, (.c (.int .i64 (-6553600000))))], none⟩, []),
   (⟨some 33, .msl 3 [.int .i64] 8 (0) (.c (.int .i64 9)) (.c (.int .i64 9)), none⟩, []),
   (⟨some 34, .msl 3 [.int .i64] 8 (0) (.c (.int .i64 9)) (.c (.int .i64 9)), none⟩, []),
   (⟨some 35, .bld [(.int .i64 0), (.int .i64 0), (.int .i64 0), (.int .i64 0), (.int .i64 0), .nsl, .nsl] [(0, 2, (.t 32)), (2, 1, (.c (.int .i64 6553600000))), (3, 1, (.c (.int .i64 3))), (4, 1, (.c (.int .i64 3))), (5, 1, (.t 33)), (6, 1, (.t 34))], none⟩, [0, 1, 2]),
   (⟨some 12, .alloc 67 [(.int .i64 0), (.int .i64 0), (.int .i64 0), (.int .i64 0), (.int .i64 0), .nsl, .nsl], none⟩, []),
   (⟨none, .st 7 (.t 12) (.t 35), none⟩, [4, 3, 0, 1, 2])])
 (.seq (.seq (.reg [
   ⟨some 36, .fa (.t 12) 5, none⟩,
   ⟨some 37, .ld 1 false (.t 36), none⟩,
   ⟨some 38, .len (.t 37), none⟩,
   ⟨some 39, .mv (.c (.int .i64 0)), none⟩])
 (.blk 0 (.loop 0 (.seq (.reg [
    ⟨some 40, .bin .lss (.t 39) (.t 38), none⟩])
  (.seq (.cond (.t 40) .skip
  (.exit 0))
  (.seq (.blk 1 (.seq (.reg [
    ⟨some 41, .mv (.t 39), none⟩,
    ⟨some 13, .mv (.t 41), none⟩])
  (.reg [
    ⟨some 42, .fa (.t 12) 5, none⟩,
    ⟨some 43, .ld 1 false (.t 42), none⟩,
    ⟨some 44, .mv (.t 13), none⟩,
    ⟨some 45, .mv (.t 1), none⟩,
    ⟨some 46, .cv .i64 (.t 45), none⟩,
    ⟨some 47, .bin .rem (.t 46) (.c (.int .i64 1001)), none⟩,
    ⟨some 48, .ia (.t 43) (.t 44) 1, none⟩,
    ⟨none, .st 1 (.t 48) (.t 47), none⟩])))
  (.reg [
    ⟨some 49, .bin .add (.t 39) (.c (.int .i64 1)), none⟩,
    ⟨some 39, .mv (.t 49), none⟩])))))))
 (.seq (.reg [
   ⟨some 50, .mv (.t 4), none⟩,
   ⟨some 51, .cv .i64 (.t 50), none⟩,
   ⟨some 52, .bin .rem (.t 51) (.c (.int .i64 31)), none⟩,
   ⟨some 14, .mv (.t 52), none⟩])
 (.seq (.reg [
   ⟨some 54, .ld 7 true (.t 12), none⟩,
   ⟨some 55, .ld 5 true (.t 5), none⟩,
   ⟨some 56, .mv (.t 2), none⟩,
   ⟨some 57, .mv (.t 3), none⟩,
   ⟨some 58, .mv (.t 14), none⟩,
   ⟨some 59, .call (.f 35) [(.t 54), (.t 55), (.t 56), (.c .nsl), (.c (.int .i64 (-1))), (.t 57), (.t 58)], none⟩,
   ⟨some 53, .mv (.t 59), none⟩,
   ⟨some 60, .ext (.t 53) 0, none⟩,
   ⟨some 61, .ext (.t 53) 1, none⟩,
   ⟨some 62, .ext (.t 53) 2, none⟩,
   ⟨some 63, .ext (.t 53) 3, none⟩,
   ⟨some 15, .mv (.t 60), none⟩,
   ⟨some 16, .mv (.t 61), none⟩,
   ⟨some 17, .mv (.t 62), none⟩,
   ⟨some 18, .mv (.t 63), none⟩])
 (.seq (.seq (.reg [
   ⟨some 64, .mv (.t 18), none⟩,
   ⟨some 65, .bin .neq (.t 64) (.c (.int .i64 0)), none⟩])
 (.cond (.t 65) (.seq (.reg [
    ⟨some 66, .mv (.t 11), none⟩,
    ⟨some 67, .mv (.t 66), none⟩,
    ⟨some 68, .mv (.t 18), some (67, true)⟩,
    ⟨some 69, .bin .eql (.t 68) (.c (.int .i64 2)), some (67, true)⟩,
    ⟨some 70, .mv (.t 69), some (67, true)⟩,
    ⟨some 71, .mv (.t 18), some (70, false)⟩,
    ⟨some 72, .bin .eql (.t 71) (.c (.int .i64 4)), some (70, false)⟩,
    ⟨some 73, .pick (.t 70) (.c (.bool true)) (.t 72), some (67, true)⟩,
    ⟨some 74, .mv (.t 73), some (67, true)⟩,
    ⟨some 75, .mv (.t 18), some (74, false)⟩,
    ⟨some 76, .bin .eql (.t 75) (.c (.int .i64 3)), some (74, false)⟩,
    ⟨some 77, .pick (.t 74) (.c (.bool true)) (.t 76), some (67, true)⟩,
    ⟨some 78, .pick (.t 67) (.t 77) (.c (.bool false)), none⟩,
    ⟨some 79, .mv (.t 78), none⟩,
    ⟨some 80, .mv (.t 15), some (79, true)⟩,
    ⟨some 81, .len (.t 80), some (79, true)⟩,
    ⟨some 82, .bin .eql (.t 81) (.c (.int .i64 0)), some (79, true)⟩,
    ⟨some 83, .pick (.t 79) (.t 82) (.c (.bool false)), none⟩,
    ⟨some 10, .mv (.t 83), none⟩])
  .ret)
 .skip))
 (.seq (.drw [
   (⟨some 85, .ld 7 true (.t 12), none⟩, []),
   (⟨some 86, .ld 5 true (.t 5), none⟩, []),
   (⟨some 87, .mv (.t 2), none⟩, []),
   (⟨some 88, .call (.f 43) [(.t 87)], none⟩, [2]),
   (⟨some 89, .mv (.t 3), none⟩, []),
   (⟨some 90, .mv (.t 14), none⟩, []),
   (⟨some 91, .call (.f 35) [(.t 85), (.t 86), (.t 88), (.c .nsl), (.c (.int .i64 (-1))), (.t 89), (.t 90)], none⟩, [0, 1, 3, 2, 4, 5]),
   (⟨some 84, .mv (.t 91), none⟩, [6, 0, 1, 3, 2, 4, 5]),
   (⟨some 92, .ext (.t 84) 0, none⟩, [7, 6, 0, 1, 3, 2, 4, 5]),
   (⟨some 93, .ext (.t 84) 1, none⟩, [7, 6, 0, 1, 3, 2, 4, 5]),
   (⟨some 94, .ext (.t 84) 2, none⟩, [7, 6, 0, 1, 3, 2, 4, 5]),
   (⟨some 95, .ext (.t 84) 3, none⟩, [7, 6, 0, 1, 3, 2, 4, 5]),
   (⟨some 19, .mv (.t 92), none⟩, [8, 7, 6, 0, 1, 3, 2, 4, 5]),
   (⟨some 20, .mv (.t 93), none⟩, [9, 7, 6, 0, 1, 3, 2, 4, 5, 12, 8]),
   (⟨some 21, .mv (.t 94), none⟩, [10, 7, 6, 0, 1, 3, 2, 4, 5, 13, 9, 12, 8]),
   (⟨some 22, .mv (.t 95), none⟩, [11, 7, 6, 0, 1, 3, 2, 4, 5, 14, 10, 13, 9, 12, 8])])
 (.seq (.reg [
   ⟨some 96, .mv (.t 11), none⟩,
   ⟨some 97, .mv (.t 96), none⟩,
   ⟨some 98, .mv (.t 22), some (97, true)⟩,
   ⟨some 99, .bin .eql (.t 98) (.c (.int .i64 0)), some (97, true)⟩,
   ⟨some 100, .pick (.t 97) (.t 99) (.c (.bool false)), none⟩,
   ⟨some 101, .mv (.t 100), none⟩,
   ⟨some 102, .mv (.t 16), some (101, true)⟩,
   ⟨some 103, .mv (.t 20), some (101, true)⟩,
   ⟨some 104, .bin .eql (.t 102) (.t 103), some (101, true)⟩,
   ⟨some 105, .pick (.t 101) (.t 104) (.c (.bool false)), none⟩,
   ⟨some 106, .mv (.t 105), none⟩,
   ⟨some 107, .mv (.t 17), some (106, true)⟩,
   ⟨some 108, .mv (.t 21), some (106, true)⟩,
   ⟨some 109, .call (.f 36) [(.t 107), (.t 108)], some (106, true)⟩,
   ⟨some 110, .pick (.t 106) (.t 109) (.c (.bool false)), none⟩,
   ⟨some 111, .mv (.t 110), none⟩,
   ⟨some 112, .mv (.t 15), some (111, true)⟩,
   ⟨some 113, .call (.f 43) [(.t 112)], some (111, true)⟩,
   ⟨some 114, .mv (.t 19), some (111, true)⟩,
   ⟨some 115, .call (.f 31) [(.t 113), (.t 114)], some (111, true)⟩,
   ⟨some 116, .pick (.t 111) (.t 115) (.c (.bool false)), none⟩,
   ⟨some 10, .mv (.t 116), none⟩])
 .ret)))))))))),
  [.tmp 10]⟩
theorem c11 : chkFn Tryz.prog Tryz.f11 a11 = true := by kernel_rfl

/-- besom/besomlaw05.ContactPlaced -/
def a12 : AFn := ⟨3, (.seq (.reg [
   ⟨some 3, .box 87 (.t 0), none⟩,
   ⟨some 6, .mv (.c (.bool false)), none⟩])
 (.seq (.reg [
   ⟨some 21, .call (.f 19) [], none⟩,
   ⟨some 7, .mv (.t 21), none⟩])
 (.seq (.seq (.reg [
   ⟨some 22, .mv (.t 1), none⟩,
   ⟨some 23, .len (.t 22), none⟩,
   ⟨some 24, .bin .gtr (.t 23) (.c (.int .i64 20)), none⟩,
   ⟨some 25, .mv (.t 24), none⟩,
   ⟨some 26, .ld 15 true (.t 3), some (25, false)⟩,
   ⟨some 27, .call (.f 37) [(.t 26), (.c .nsl)], some (25, false)⟩,
   ⟨some 28, .pick (.t 25) (.c (.bool true)) (.t 27), none⟩,
   ⟨some 29, .mv (.t 28), none⟩,
   ⟨some 30, .mv (.t 7), some (29, false)⟩,
   ⟨some 31, .not (.t 30), some (29, false)⟩,
   ⟨some 32, .pick (.t 29) (.c (.bool true)) (.t 31), none⟩])
 (.cond (.t 32) (.seq (.reg [
    ⟨some 33, .mv (.t 7), none⟩,
    ⟨some 6, .mv (.t 33), none⟩])
  .ret)
 .skip))
 (.seq (.reg [
   ⟨some 35, .mv (.t 1), none⟩,
   ⟨some 36, .call (.f 26) [(.t 35)], none⟩,
   ⟨some 34, .mv (.t 36), none⟩,
   ⟨some 37, .ext (.t 34) 0, none⟩,
   ⟨some 38, .ext (.t 34) 1, none⟩,
   ⟨some 8, .mv (.t 37), none⟩,
   ⟨some 9, .mv (.t 38), none⟩])
 (.seq (.seq (.reg [
   ⟨some 39, .mv (.t 9), none⟩,
   ⟨some 40, .bin .neq (.t 39) (.c (.int .i64 0)), none⟩])
 (.cond (.t 40) (.seq (.reg [
    ⟨some 41, .mv (.t 7), none⟩,
    ⟨some 42, .mv (.t 41), none⟩,
    ⟨some 43, .mv (.t 8), some (42, true)⟩,
    ⟨some 44, .len (.t 43), some (42, true)⟩,
    ⟨some 45, .bin .eql (.t 44) (.c (.int .i64 0)), some (42, true)⟩,
    ⟨some 46, .pick (.t 42) (.t 45) (.c (.bool false)), none⟩,
    ⟨some 47, .mv (.t 46), none⟩,
    ⟨some 48, .mv (.t 9), some (47, true)⟩,
    ⟨some 49, .bin .eql (.t 48) (.c (.int .i64 2)), some (47, true)⟩,
    ⟨some 50, .mv (.t 49), some (47, true)⟩,
    ⟨some 51, .mv (.t 9), some (50, false)⟩,
    ⟨some 52, .bin .eql (.t 51) (.c (.int .i64 3)), some (50, false)⟩,
    ⟨some 53, .mv (.t 52), some (50, false)⟩,
    ⟨some 54, .mv (.t 1), some (53, true)⟩,
    ⟨some 55, .len (.t 54), some (53, true)⟩,
    ⟨some 56, .bin .gtr (.t 55) (.c (.int .i64 16)), some (53, true)⟩,
    ⟨some 57, .pick (.t 53) (.t 56) (.c (.bool false)), some (50, false)⟩,
    ⟨some 58, .pick (.t 50) (.c (.bool true)) (.t 57), some (47, true)⟩,
    ⟨some 59, .pick (.t 47) (.t 58) (.c (.bool false)), none⟩,
    ⟨some 6, .mv (.t 59), none⟩])
  .ret)
 .skip))
 (.seq (.reg [
   ⟨some 61, .mv (.t 8), none⟩,
   ⟨some 62, .call (.f 24) [(.t 61)], none⟩,
   ⟨some 60, .mv (.t 62), none⟩,
   ⟨some 63, .ext (.t 60) 0, none⟩,
   ⟨some 64, .ext (.t 60) 1, none⟩,
   ⟨some 10, .mv (.t 63), none⟩,
   ⟨some 11, .mv (.t 64), none⟩])
 (.seq (.reg [
   ⟨some 66, .mv (.t 8), none⟩,
   ⟨some 67, .call (.f 20) [(.t 66)], none⟩,
   ⟨some 65, .mv (.t 67), none⟩,
   ⟨some 68, .ext (.t 65) 0, none⟩,
   ⟨some 69, .ext (.t 65) 1, none⟩,
   ⟨some 12, .alloc 24 [(.int .i64 0), (.int .i64 0)], none⟩,
   ⟨none, .st 2 (.t 12) (.t 68), none⟩,
   ⟨some 13, .mv (.t 69), none⟩])
 (.seq (.reg [
   ⟨some 71, .mv (.t 8), none⟩,
   ⟨some 72, .call (.f 22) [(.t 71)], none⟩,
   ⟨some 70, .mv (.t 72), none⟩,
   ⟨some 73, .ext (.t 70) 0, none⟩,
   ⟨some 74, .ext (.t 70) 1, none⟩,
   ⟨some 14, .mv (.t 73), none⟩,
   ⟨some 15, .mv (.t 74), none⟩])
 (.seq (.reg [
   ⟨some 76, .fa (.t 3) 0, none⟩,
   ⟨some 77, .ld 7 true (.t 76), none⟩,
   ⟨some 78, .fa (.t 3) 7, none⟩,
   ⟨some 79, .ld 5 true (.t 78), none⟩,
   ⟨some 80, .mv (.t 8), none⟩,
   ⟨some 81, .fa (.t 3) 12, none⟩,
   ⟨some 82, .ld 1 false (.t 81), none⟩,
   ⟨some 83, .fa (.t 3) 14, none⟩,
   ⟨some 84, .ld 1 false (.t 83), none⟩,
   ⟨some 85, .mv (.t 2), none⟩,
   ⟨some 86, .cv .i64 (.t 85), none⟩,
   ⟨some 87, .call (.f 35) [(.t 77), (.t 79), (.t 80), (.t 82), (.c (.int .i64 (-1))), (.t 84), (.t 86)], none⟩,
   ⟨some 75, .mv (.t 87), none⟩,
   ⟨some 88, .ext (.t 75) 0, none⟩,
   ⟨some 89, .ext (.t 75) 1, none⟩,
   ⟨some 90, .ext (.t 75) 2, none⟩,
   ⟨some 91, .ext (.t 75) 3, none⟩,
   ⟨some 16, .mv (.t 88), none⟩,
   ⟨some 17, .mv (.t 89), none⟩,
   ⟨some 18, .mv (.t 90), none⟩,
   ⟨some 19, .mv (.t 91), none⟩])
 (.seq (.reg [
   ⟨some 92, .mv (.t 19), none⟩,
   ⟨some 93, .bin .eql (.t 92) (.c (.int .i64 2)), none⟩,
   ⟨some 94, .mv (.t 93), none⟩,
   ⟨some 95, .mv (.t 19), some (94, false)⟩,
   ⟨some 96, .bin .eql (.t 95) (.c (.int .i64 0)), some (94, false)⟩,
   ⟨some 97, .mv (.t 96), some (94, false)⟩,
   ⟨some 98, .mv (.t 17), some (97, true)⟩,
   ⟨some 99, .bin .eql (.t 98) (.c (.int .i64 0)), some (97, true)⟩,
   ⟨some 100, .pick (.t 97) (.t 99) (.c (.bool false)), some (94, false)⟩,
   ⟨some 101, .mv (.t 100), some (94, false)⟩,
   ⟨some 102, .mv (.t 18), some (101, true)⟩,
   ⟨some 103, .len (.t 102), some (101, true)⟩,
   ⟨some 104, .bin .eql (.t 103) (.c (.int .i64 0)), some (101, true)⟩,
   ⟨some 105, .pick (.t 101) (.t 104) (.c (.bool false)), some (94, false)⟩,
   ⟨some 106, .mv (.t 105), some (94, false)⟩,
   ⟨some 107, .mv (.t 16), some (106, true)⟩,
   ⟨some 108, .mv (.t 8), some (106, true)⟩,
   ⟨some 109, .call (.f 31) [(.t 107), (.t 108)], some (106, true)⟩,
   ⟨some 110, .pick (.t 106) (.t 109) (.c (.bool false)), some (94, false)⟩,
   ⟨some 111, .pick (.t 94) (.c (.bool true)) (.t 110), none⟩,
   ⟨some 20, .mv (.t 111), none⟩])
 (.seq (.reg [
   ⟨some 112, .mv (.t 7), none⟩,
   ⟨some 113, .mv (.t 112), none⟩,
   ⟨some 114, .mv (.t 10), some (113, true)⟩,
   ⟨some 115, .mv (.t 1), some (113, true)⟩,
   ⟨some 116, .call (.f 30) [(.t 114), (.t 115)], some (113, true)⟩,
   ⟨some 117, .pick (.t 113) (.t 116) (.c (.bool false)), none⟩,
   ⟨some 118, .mv (.t 117), none⟩,
   ⟨some 119, .mv (.t 11), some (118, true)⟩,
   ⟨some 120, .bin .eql (.t 119) (.c (.int .i64 0)), some (118, true)⟩,
   ⟨some 121, .pick (.t 118) (.t 120) (.c (.bool false)), none⟩,
   ⟨some 122, .mv (.t 121), none⟩,
   ⟨some 123, .ld 2 true (.t 12), some (122, true)⟩,
   ⟨some 124, .bld [(.int .i64 0), (.int .i64 0)] [], some (122, true)⟩,
   ⟨some 125, .eqa false [.int .i64, .int .i64] (.t 123) (.t 124), some (122, true)⟩,
   ⟨some 126, .pick (.t 122) (.t 125) (.c (.bool false)), none⟩,
   ⟨some 127, .mv (.t 126), none⟩,
   ⟨some 128, .mv (.t 13), some (127, true)⟩,
   ⟨some 129, .bin .eql (.t 128) (.c (.int .i64 0)), some (127, true)⟩,
   ⟨some 130, .pick (.t 127) (.t 129) (.c (.bool false)), none⟩,
   ⟨some 131, .mv (.t 130), none⟩,
   ⟨some 132, .mv (.t 14), some (131, true)⟩,
   ⟨some 133, .pick (.t 131) (.t 132) (.c (.bool false)), none⟩,
   ⟨some 134, .mv (.t 133), none⟩,
   ⟨some 135, .mv (.t 15), some (134, true)⟩,
   ⟨some 136, .bin .eql (.t 135) (.c (.int .i64 0)), some (134, true)⟩,
   ⟨some 137, .pick (.t 134) (.t 136) (.c (.bool false)), none⟩,
   ⟨some 138, .mv (.t 137), none⟩,
   ⟨some 139, .mv (.t 20), some (138, true)⟩,
   ⟨some 140, .pick (.t 138) (.t 139) (.c (.bool false)), none⟩,
   ⟨some 6, .mv (.t 140), none⟩])
 .ret))))))))))),
  [.tmp 6]⟩
theorem c12 : chkFn Tryz.prog Tryz.f12 a12 = true := by kernel_rfl

/-- besom/contact.Touch -/
def a13 : AFn := ⟨2, (.seq (.reg [
   ⟨some 2, .box 28 (.t 0), none⟩,
   ⟨some 3, .box 28 (.t 1), none⟩,
   ⟨some 4, .mv (.c (.bool false)), none⟩,
   ⟨some 5, .mv (.c (.int .i64 0)), none⟩])
 (.seq (.drw [
   (⟨some 8, .ld 8 true (.t 2), none⟩, []),
   (⟨some 9, .bld [(.int .i64 0), (.int .i64 0), (.int .i64 0), (.int .i64 0), (.int .i64 0), (.int .i64 0), (.int .i64 0), (.bool false)] [(0, 8, (.t 8))], none⟩, [0]),
   (⟨some 10, .ld 8 true (.t 3), none⟩, []),
   (⟨some 11, .bld [(.int .i64 0), (.int .i64 0), (.int .i64 0), (.int .i64 0), (.int .i64 0), (.int .i64 0), (.int .i64 0), (.bool false)] [(0, 8, (.t 10))], none⟩, [2]),
   (⟨some 6, .alloc 106 [(.int .i64 0), (.int .i64 0), (.int .i64 0), (.int .i64 0), (.int .i64 0), (.int .i64 0), (.int .i64 0), (.bool false)], none⟩, []),
   (⟨some 7, .alloc 106 [(.int .i64 0), (.int .i64 0), (.int .i64 0), (.int .i64 0), (.int .i64 0), (.int .i64 0), (.int .i64 0), (.bool false)], none⟩, []),
   (⟨none, .st 8 (.t 6) (.t 9), none⟩, [4, 1, 0, 5]),
   (⟨none, .st 8 (.t 7) (.t 11), none⟩, [5, 3, 2, 6, 4, 1, 0])])
 (.seq (.seq (.reg [
   ⟨some 12, .ld 8 true (.t 6), none⟩,
   ⟨some 13, .call (.f 44) [(.t 12)], none⟩,
   ⟨some 14, .not (.t 13), none⟩,
   ⟨some 15, .mv (.t 14), none⟩,
   ⟨some 16, .ld 8 true (.t 7), some (15, false)⟩,
   ⟨some 17, .call (.f 44) [(.t 16)], some (15, false)⟩,
   ⟨some 18, .not (.t 17), some (15, false)⟩,
   ⟨some 19, .pick (.t 15) (.c (.bool true)) (.t 18), none⟩])
 (.cond (.t 19) (.seq (.reg [
    ⟨some 4, .mv (.c (.bool false)), none⟩,
    ⟨some 5, .mv (.c (.int .i64 2)), none⟩])
  .ret)
 .skip))
 (.seq (.reg [
   ⟨some 20, .ld 8 true (.t 6), none⟩,
   ⟨some 21, .ld 8 true (.t 7), none⟩,
   ⟨some 22, .call (.f 45) [(.t 20), (.t 21)], none⟩,
   ⟨some 4, .mv (.t 22), none⟩,
   ⟨some 5, .mv (.c (.int .i64 0)), none⟩])
 .ret)))),
  [.tmp 4, .tmp 5]⟩
theorem c13 : chkFn Tryz.prog Tryz.f13 a13 = true := by kernel_rfl

/-- besom/besomref05.Touch -/
def a14 : AFn := ⟨2, (.seq (.reg [
   ⟨some 2, .box 28 (.t 0), none⟩,
   ⟨some 3, .box 28 (.t 1), none⟩,
   ⟨some 4, .mv (.c (.bool false)), none⟩,
   ⟨some 5, .mv (.c (.int .i64 0)), none⟩])
 (.seq (.reg [
   ⟨some 8, .ld 8 true (.t 2), none⟩,
   ⟨some 9, .call (.f 46) [(.t 8)], none⟩,
   ⟨some 6, .mv (.t 9), none⟩])
 (.seq (.reg [
   ⟨some 10, .ld 8 true (.t 3), none⟩,
   ⟨some 11, .call (.f 46) [(.t 10)], none⟩,
   ⟨some 7, .mv (.t 11), none⟩])
 (.seq (.seq (.reg [
   ⟨some 12, .mv (.t 6), none⟩,
   ⟨some 13, .not (.t 12), none⟩,
   ⟨some 14, .mv (.t 13), none⟩,
   ⟨some 15, .mv (.t 7), some (14, false)⟩,
   ⟨some 16, .not (.t 15), some (14, false)⟩,
   ⟨some 17, .pick (.t 14) (.c (.bool true)) (.t 16), none⟩])
 (.cond (.t 17) (.seq (.reg [
    ⟨some 4, .mv (.c (.bool false)), none⟩,
    ⟨some 5, .mv (.c (.int .i64 2)), none⟩])
  .ret)
 .skip))
 (.seq (.reg [
   ⟨some 18, .ld 8 true (.t 2), none⟩,
   ⟨some 19, .ld 8 true (.t 3), none⟩,
   ⟨some 20, .call (.f 47) [(.t 18), (.t 19)], none⟩,
   ⟨some 4, .mv (.t 20), none⟩,
   ⟨some 5, .mv (.c (.int .i64 0)), none⟩])
 .ret))))),
  [.tmp 4, .tmp 5]⟩
theorem c14 : chkFn Tryz.prog Tryz.f14 a14 = true := by kernel_rfl

/-- besom/contact.Gone -/
def a15 : AFn := ⟨1, (.seq (.reg [
   ⟨some 1, .box 28 (.t 0), none⟩,
   ⟨some 2, .mv (.c (.bool false)), none⟩,
   ⟨some 3, .mv (.c (.int .i64 0)), none⟩])
 (.seq (.reg [
   ⟨some 5, .ld 8 true (.t 1), none⟩,
   ⟨some 6, .bld [(.int .i64 0), (.int .i64 0), (.int .i64 0), (.int .i64 0), (.int .i64 0), (.int .i64 0), (.int .i64 0), (.bool false)] [(0, 8, (.t 5))], none⟩,
   ⟨some 4, .alloc 106 [(.int .i64 0), (.int .i64 0), (.int .i64 0), (.int .i64 0), (.int .i64 0), (.int .i64 0), (.int .i64 0), (.bool false)], none⟩,
   ⟨none, .st 8 (.t 4) (.t 6), none⟩])
 (.seq (.seq (.reg [
   ⟨some 7, .ld 8 true (.t 4), none⟩,
   ⟨some 8, .call (.f 44) [(.t 7)], none⟩,
   ⟨some 9, .not (.t 8), none⟩])
 (.cond (.t 9) (.seq (.reg [
    ⟨some 2, .mv (.c (.bool false)), none⟩,
    ⟨some 3, .mv (.c (.int .i64 2)), none⟩])
  .ret)
 .skip))
 (.seq (.reg [
   ⟨some 10, .ld 8 true (.t 4), none⟩,
   ⟨some 11, .call (.f 48) [(.t 10)], none⟩,
   ⟨some 2, .mv (.t 11), none⟩,
   ⟨some 3, .mv (.c (.int .i64 0)), none⟩])
 .ret)))),
  [.tmp 2, .tmp 3]⟩
theorem c15 : chkFn Tryz.prog Tryz.f15 a15 = true := by kernel_rfl

/-- besom/besomref05.Gone -/
def a16 : AFn := ⟨1, (.seq (.reg [
   ⟨some 1, .box 28 (.t 0), none⟩,
   ⟨some 2, .mv (.c (.bool false)), none⟩,
   ⟨some 3, .mv (.c (.int .i64 0)), none⟩])
 (.seq (.reg [
   ⟨some 5, .ld 8 true (.t 1), none⟩,
   ⟨some 6, .call (.f 46) [(.t 5)], none⟩,
   ⟨some 4, .mv (.t 6), none⟩])
 (.seq (.seq (.reg [
   ⟨some 7, .mv (.t 4), none⟩,
   ⟨some 8, .not (.t 7), none⟩])
 (.cond (.t 8) (.seq (.reg [
    ⟨some 2, .mv (.c (.bool false)), none⟩,
    ⟨some 3, .mv (.c (.int .i64 2)), none⟩])
  .ret)
 .skip))
 (.seq (.reg [
   ⟨some 9, .ld 8 true (.t 1), none⟩,
   ⟨some 10, .call (.f 49) [(.t 9)], none⟩,
   ⟨some 2, .mv (.t 10), none⟩,
   ⟨some 3, .mv (.c (.int .i64 0)), none⟩])
 .ret)))),
  [.tmp 2, .tmp 3]⟩
theorem c16 : chkFn Tryz.prog Tryz.f16 a16 = true := by kernel_rfl

/-- besom/contact.Meet -/
def a17 : AFn := ⟨3, (.seq (.reg [
   ⟨some 3, .box 28 (.t 0), none⟩,
   ⟨some 4, .box 28 (.t 1), none⟩,
   ⟨some 5, .box 3 (.t 2), none⟩,
   ⟨some 6, .alloc 28 [(.int .i64 0), (.int .i64 0), (.int .i64 0), (.int .i64 0), (.int .i64 0), (.int .i64 0), (.int .i64 0), (.bool false)], none⟩,
   ⟨some 7, .alloc 28 [(.int .i64 0), (.int .i64 0), (.int .i64 0), (.int .i64 0), (.int .i64 0), (.int .i64 0), (.int .i64 0), (.bool false)], none⟩,
   ⟨some 8, .mv (.c (.bool false)), none⟩,
   ⟨some 9, .mv (.c (.int .i64 0)), none⟩])
 (.seq (.drw [
   (⟨some 14, .ld 8 true (.t 3), none⟩, []),
   (⟨some 15, .bld [(.int .i64 0), (.int .i64 0), (.int .i64 0), (.int .i64 0), (.int .i64 0), (.int .i64 0), (.int .i64 0), (.bool false)] [(0, 8, (.t 14))], none⟩, [0]),
   (⟨some 16, .ld 8 true (.t 4), none⟩, []),
   (⟨some 17, .bld [(.int .i64 0), (.int .i64 0), (.int .i64 0), (.int .i64 0), (.int .i64 0), (.int .i64 0), (.int .i64 0), (.bool false)] [(0, 8, (.t 16))], none⟩, [2]),
   (⟨some 10, .alloc 106 [(.int .i64 0), (.int .i64 0), (.int .i64 0), (.int .i64 0), (.int .i64 0), (.int .i64 0), (.int .i64 0), (.bool false)], none⟩, []),
   (⟨some 11, .alloc 106 [(.int .i64 0), (.int .i64 0), (.int .i64 0), (.int .i64 0), (.int .i64 0), (.int .i64 0), (.int .i64 0), (.bool false)], none⟩, []),
   (⟨none, .st 8 (.t 10) (.t 15), none⟩, [4, 1, 0, 5]),
   (⟨none, .st 8 (.t 11) (.t 17), none⟩, [5, 3, 2, 6, 4, 1, 0])])
 (.seq (.seq (.reg [
   ⟨some 18, .ld 8 true (.t 10), none⟩,
   ⟨some 19, .call (.f 44) [(.t 18)], none⟩,
   ⟨some 20, .not (.t 19), none⟩,
   ⟨some 21, .mv (.t 20), none⟩,
   ⟨some 22, .ld 8 true (.t 11), some (21, false)⟩,
   ⟨some 23, .call (.f 44) [(.t 22)], some (21, false)⟩,
   ⟨some 24, .not (.t 23), some (21, false)⟩,
   ⟨some 25, .pick (.t 21) (.c (.bool true)) (.t 24), none⟩,
   ⟨some 26, .mv (.t 25), none⟩,
   ⟨some 27, .ld 1 false (.t 5), some (26, false)⟩,
   ⟨some 28, .call (.f 50) [(.t 27), (.c (.int .i64 0)), (.c (.int .i64 1000))], some (26, false)⟩,
   ⟨some 29, .not (.t 28), some (26, false)⟩,
   ⟨some 30, .pick (.t 26) (.c (.bool true)) (.t 29), none⟩])
 (.cond (.t 30) (.seq (.reg [
    ⟨some 31, .bld [(.int .i64 0), (.int .i64 0), (.int .i64 0), (.int .i64 0), (.int .i64 0), (.int .i64 0), (.int .i64 0), (.bool false)] [], none⟩,
    ⟨some 32, .bld [(.int .i64 0), (.int .i64 0), (.int .i64 0), (.int .i64 0), (.int .i64 0), (.int .i64 0), (.int .i64 0), (.bool false)] [], none⟩,
    ⟨none, .st 8 (.t 6) (.t 31), none⟩,
    ⟨none, .st 8 (.t 7) (.t 32), none⟩,
    ⟨some 8, .mv (.c (.bool false)), none⟩,
    ⟨some 9, .mv (.c (.int .i64 2)), none⟩])
  .ret)
 .skip))
 (.seq (.reg [
   ⟨some 12, .alloc 4 [(.bool false)], none⟩,
   ⟨none, .st 1 (.t 12) (.c (.bool false)), none⟩])
 (.seq (.reg [
   ⟨some 33, .mkf 52 [] [(.t 10), (.t 11), (.t 5), (.t 12)], none⟩,
   ⟨some 34, .call (.f 51) [(.t 33)], none⟩,
   ⟨some 13, .mv (.t 34), none⟩])
 (.seq (.seq (.reg [
   ⟨some 35, .mv (.t 13), none⟩,
   ⟨some 36, .bin .neq (.t 35) (.c (.int .i64 0)), none⟩])
 (.cond (.t 36) (.seq (.reg [
    ⟨some 37, .bld [(.int .i64 0), (.int .i64 0), (.int .i64 0), (.int .i64 0), (.int .i64 0), (.int .i64 0), (.int .i64 0), (.bool false)] [], none⟩,
    ⟨some 38, .bld [(.int .i64 0), (.int .i64 0), (.int .i64 0), (.int .i64 0), (.int .i64 0), (.int .i64 0), (.int .i64 0), (.bool false)] [], none⟩,
    ⟨some 39, .mv (.t 13), none⟩,
    ⟨none, .st 8 (.t 6) (.t 37), none⟩,
    ⟨none, .st 8 (.t 7) (.t 38), none⟩,
    ⟨some 8, .mv (.c (.bool false)), none⟩,
    ⟨some 9, .mv (.t 39), none⟩])
  .ret)
 .skip))
 (.seq (.drw [
   (⟨some 40, .fa (.t 10) 0, none⟩, []),
   (⟨some 41, .ld 8 true (.t 40), none⟩, [0]),
   (⟨some 42, .fa (.t 11) 0, none⟩, []),
   (⟨some 43, .ld 8 true (.t 42), none⟩, [2]),
   (⟨some 44, .ld 1 false (.t 12), none⟩, []),
   (⟨none, .st 8 (.t 6) (.t 41), none⟩, [1, 0]),
   (⟨none, .st 8 (.t 7) (.t 43), none⟩, [3, 2, 5, 1, 0]),
   (⟨some 8, .mv (.t 44), none⟩, [4, 6, 3, 2, 5, 1, 0]),
   (⟨some 9, .mv (.c (.int .i64 0)), none⟩, [7, 4, 6, 3, 2, 5, 1, 0])])
 .ret))))))),
  [.cell 6 8 true, .cell 7 8 true, .tmp 8, .tmp 9]⟩
theorem c17 : chkFn Tryz.prog Tryz.f17 a17 = true := by kernel_rfl

/-- besom/besomref05.Meet -/
def a18 : AFn := ⟨3, (.seq (.reg [
   ⟨some 3, .box 28 (.t 0), none⟩,
   ⟨some 4, .box 28 (.t 1), none⟩,
   ⟨some 6, .alloc 39 [(.int .i64 0), (.int .i64 0), (.int .i64 0), (.int .i64 0), (.int .i64 0), (.int .i64 0), (.int .i64 0), (.bool false), (.int .i64 0), (.int .i64 0), (.int .i64 0), (.int .i64 0), (.int .i64 0), (.int .i64 0), (.int .i64 0), (.bool false), (.bool false)], none⟩,
   ⟨some 7, .mv (.c (.int .i64 0)), none⟩])
 (.seq (.reg [
   ⟨some 11, .ld 8 true (.t 3), none⟩,
   ⟨some 12, .call (.f 46) [(.t 11)], none⟩,
   ⟨some 8, .mv (.t 12), none⟩])
 (.seq (.reg [
   ⟨some 13, .ld 8 true (.t 4), none⟩,
   ⟨some 14, .call (.f 46) [(.t 13)], none⟩,
   ⟨some 9, .mv (.t 14), none⟩])
 (.seq (.seq (.reg [
   ⟨some 15, .mv (.t 8), none⟩,
   ⟨some 16, .not (.t 15), none⟩,
   ⟨some 17, .mv (.t 16), none⟩,
   ⟨some 18, .mv (.t 9), some (17, false)⟩,
   ⟨some 19, .not (.t 18), some (17, false)⟩,
   ⟨some 20, .pick (.t 17) (.c (.bool true)) (.t 19), none⟩,
   ⟨some 21, .mv (.t 20), none⟩,
   ⟨some 22, .mv (.t 2), some (21, false)⟩,
   ⟨some 23, .call (.f 54) [(.t 22), (.c (.int .i64 0)), (.c (.int .i64 1000))], some (21, false)⟩,
   ⟨some 24, .not (.t 23), some (21, false)⟩,
   ⟨some 25, .pick (.t 21) (.c (.bool true)) (.t 24), none⟩])
 (.cond (.t 25) (.seq (.reg [
    ⟨some 26, .bld [(.int .i64 0), (.int .i64 0), (.int .i64 0), (.int .i64 0), (.int .i64 0), (.int .i64 0), (.int .i64 0), (.bool false), (.int .i64 0), (.int .i64 0), (.int .i64 0), (.int .i64 0), (.int .i64 0), (.int .i64 0), (.int .i64 0), (.bool false), (.bool false)] [], none⟩,
    ⟨none, .st 17 (.t 6) (.t 26), none⟩,
    ⟨some 7, .mv (.c (.int .i64 2)), none⟩])
  .ret)
 .skip))
 (.seq (.reg [
   ⟨some 27, .ld 8 true (.t 3), none⟩,
   ⟨some 28, .ld 8 true (.t 4), none⟩,
   ⟨some 29, .call (.f 47) [(.t 27), (.t 28)], none⟩,
   ⟨some 10, .mv (.t 29), none⟩])
 (.seq (.seq (.reg [
   ⟨some 30, .mv (.t 10), none⟩,
   ⟨some 31, .not (.t 30), none⟩])
 (.cond (.t 31) (.seq (.reg [
    ⟨some 32, .ld 8 true (.t 3), none⟩,
    ⟨some 33, .ld 8 true (.t 4), none⟩,
    ⟨some 34, .bld [(.int .i64 0), (.int .i64 0), (.int .i64 0), (.int .i64 0), (.int .i64 0), (.int .i64 0), (.int .i64 0), (.bool false), (.int .i64 0), (.int .i64 0), (.int .i64 0), (.int .i64 0), (.int .i64 0), (.int .i64 0), (.int .i64 0), (.bool false), (.bool false)] [(0, 8, (.t 32)), (8, 8, (.t 33))], none⟩,
    ⟨none, .st 17 (.t 6) (.t 34), none⟩,
    ⟨some 7, .mv (.c (.int .i64 0)), none⟩])
  .ret)
 .skip))
 (.seq (.reg [
   ⟨some 35, .ld 8 true (.t 3), none⟩,
   ⟨some 36, .ld 8 true (.t 4), none⟩,
   ⟨some 37, .mv (.t 2), none⟩,
   ⟨some 38, .call (.f 55) [(.t 35), (.t 36), (.t 37)], none⟩,
   ⟨some 39, .ext (.t 38) 0, none⟩,
   ⟨some 40, .ext (.t 38) 1, none⟩,
   ⟨none, .st 17 (.t 6) (.t 39), none⟩,
   ⟨some 7, .mv (.t 40), none⟩])
 .ret))))))),
  [.cell 6 17 true, .tmp 7]⟩
theorem c18 : chkFn Tryz.prog Tryz.f18 a18 = true := by kernel_rfl

/-- besom/besomlaw05.alive -/
def a19 : AFn := ⟨0, (.seq (.reg [
   ⟨some 0, .mv (.c (.bool false)), none⟩])
 (.seq (.reg [
   ⟨some 9, .call (.f 56) [(.c (.int .i64 0)), (.c (.int .i64 0)), (.c (.int .i64 20000))], none⟩,
   ⟨some 10, .call (.f 56) [(.c (.int .i64 1)), (.c (.int .i64 19000000)), (.c (.int .i64 0))], none⟩,
   ⟨some 1, .alloc 28 [(.int .i64 0), (.int .i64 0), (.int .i64 0), (.int .i64 0), (.int .i64 0), (.int .i64 0), (.int .i64 0), (.bool false)], none⟩,
   ⟨some 2, .alloc 28 [(.int .i64 0), (.int .i64 0), (.int .i64 0), (.int .i64 0), (.int .i64 0), (.int .i64 0), (.int .i64 0), (.bool false)], none⟩,
   ⟨none, .st 8 (.t 1) (.t 9), none⟩,
   ⟨none, .st 8 (.t 2) (.t 10), none⟩])
 (.seq (.reg [
   ⟨some 12, .ld 8 true (.t 1), none⟩,
   ⟨some 13, .ld 8 true (.t 2), none⟩,
   ⟨some 14, .call (.f 13) [(.t 12), (.t 13)], none⟩,
   ⟨some 11, .mv (.t 14), none⟩,
   ⟨some 15, .ext (.t 11) 0, none⟩,
   ⟨some 16, .ext (.t 11) 1, none⟩,
   ⟨some 3, .mv (.t 15), none⟩,
   ⟨some 4, .mv (.t 16), none⟩])
 (.seq (.reg [
   ⟨some 18, .ld 8 true (.t 1), none⟩,
   ⟨some 19, .ld 8 true (.t 2), none⟩,
   ⟨some 20, .call (.f 17) [(.t 18), (.t 19), (.c (.int .i64 800))], none⟩,
   ⟨some 17, .mv (.t 20), none⟩,
   ⟨some 21, .ext (.t 17) 0, none⟩,
   ⟨some 22, .ext (.t 17) 1, none⟩,
   ⟨some 23, .ext (.t 17) 2, none⟩,
   ⟨some 24, .ext (.t 17) 3, none⟩,
   ⟨some 5, .alloc 28 [(.int .i64 0), (.int .i64 0), (.int .i64 0), (.int .i64 0), (.int .i64 0), (.int .i64 0), (.int .i64 0), (.bool false)], none⟩,
   ⟨some 6, .alloc 28 [(.int .i64 0), (.int .i64 0), (.int .i64 0), (.int .i64 0), (.int .i64 0), (.int .i64 0), (.int .i64 0), (.bool false)], none⟩,
   ⟨none, .st 8 (.t 5) (.t 21), none⟩,
   ⟨none, .st 8 (.t 6) (.t 22), none⟩,
   ⟨some 7, .mv (.t 23), none⟩,
   ⟨some 8, .mv (.t 24), none⟩])
 (.seq (.drw [
   (⟨some 25, .mv (.t 3), none⟩, []),
   (⟨some 26, .mv (.t 25), none⟩, [0]),
   (⟨some 27, .mv (.t 4), some (26, true)⟩, [1, 0]),
   (⟨some 28, .bin .eql (.t 27) (.c (.int .i64 0)), some (26, true)⟩, [2, 1, 0]),
   (⟨some 29, .pick (.t 26) (.t 28) (.c (.bool false)), none⟩, [1, 0, 3, 2]),
   (⟨some 30, .mv (.t 29), none⟩, [4, 1, 0, 3, 2]),
   (⟨some 31, .mv (.t 7), some (30, true)⟩, [5, 4, 1, 0, 3, 2]),
   (⟨some 32, .pick (.t 30) (.t 31) (.c (.bool false)), none⟩, [5, 4, 1, 0, 3, 2, 6]),
   (⟨some 33, .mv (.t 32), none⟩, [7, 5, 4, 1, 0, 3, 2, 6]),
   (⟨some 34, .mv (.t 8), some (33, true)⟩, [8, 7, 5, 4, 1, 0, 3, 2, 6]),
   (⟨some 35, .bin .eql (.t 34) (.c (.int .i64 0)), some (33, true)⟩, [9, 8, 7, 5, 4, 1, 0, 3, 2, 6]),
   (⟨some 36, .pick (.t 33) (.t 35) (.c (.bool false)), none⟩, [8, 7, 5, 4, 1, 0, 3, 2, 6, 10, 9]),
   (⟨some 37, .mv (.t 36), none⟩, [11, 8, 7, 5, 4, 1, 0, 3, 2, 6, 10, 9]),
   (⟨some 38, .ld 8 true (.t 5), some (37, true)⟩, [12, 11, 8, 7, 5, 4, 1, 0, 3, 2, 6, 10, 9]),
   (⟨some 39, .call (.f 56) [(.c (.int .i64 0)), (.c (.int .i64 0)), (.c (.int .i64 2000))], some (37, true)⟩, [12, 11, 8, 7, 5, 4, 1, 0, 3, 2, 6, 10, 9]),
   (⟨some 40, .eqa false [.int .i64, .int .i64, .int .i64, .int .i64, .int .i64, .int .i64, .int .i64, .bool] (.t 38) (.t 39), some (37, true)⟩, [13, 12, 11, 8, 7, 5, 4, 1, 0, 3, 2, 6, 10, 9, 14]),
   (⟨some 41, .pick (.t 37) (.t 40) (.c (.bool false)), none⟩, [12, 11, 8, 7, 5, 4, 1, 0, 3, 2, 6, 10, 9, 15, 13, 14]),
   (⟨some 42, .mv (.t 41), none⟩, [16, 12, 11, 8, 7, 5, 4, 1, 0, 3, 2, 6, 10, 9, 15, 13, 14]),
   (⟨some 43, .ld 8 true (.t 6), some (42, true)⟩, [17, 16, 12, 11, 8, 7, 5, 4, 1, 0, 3, 2, 6, 10, 9, 15, 13, 14]),
   (⟨some 44, .call (.f 56) [(.c (.int .i64 1)), (.c (.int .i64 19000000)), (.c (.int .i64 18000))], some (42, true)⟩, [17, 16, 12, 11, 8, 7, 5, 4, 1, 0, 3, 2, 6, 10, 9, 15, 13, 14]),
   (⟨some 45, .eqa false [.int .i64, .int .i64, .int .i64, .int .i64, .int .i64, .int .i64, .int .i64, .bool] (.t 43) (.t 44), some (42, true)⟩, [18, 17, 16, 12, 11, 8, 7, 5, 4, 1, 0, 3, 2, 6, 10, 9, 15, 13, 14, 19]),
   (⟨some 46, .pick (.t 42) (.t 45) (.c (.bool false)), none⟩, [17, 16, 12, 11, 8, 7, 5, 4, 1, 0, 3, 2, 6, 10, 9, 15, 13, 14, 20, 18, 19]),
   (⟨some 0, .mv (.t 46), none⟩, [21, 17, 16, 12, 11, 8, 7, 5, 4, 1, 0, 3, 2, 6, 10, 9, 15, 13, 14, 20, 18, 19])])
 .ret))))),
  [.tmp 0]⟩
theorem c19 : chkFn Tryz.prog Tryz.f19 a19 = true := by kernel_rfl

/-- besom/contact.Momentum -/
def a20 : AFn := ⟨1, (.seq (.reg [
   ⟨some 2, .alloc 24 [(.int .i64 0), (.int .i64 0)], none⟩,
   ⟨some 3, .mv (.c (.int .i64 0)), none⟩])
 (.seq (.seq (.reg [
   ⟨some 8, .mv (.t 0), none⟩,
   ⟨some 9, .call (.f 28) [(.t 8)], none⟩,
   ⟨some 4, .mv (.t 9), none⟩])
 (.seq (.reg [
   ⟨some 10, .mv (.t 4), none⟩,
   ⟨some 11, .bin .neq (.t 10) (.c (.int .i64 0)), none⟩])
 (.cond (.t 11) (.seq (.reg [
    ⟨some 12, .bld [(.int .i64 0), (.int .i64 0)] [], none⟩,
    ⟨some 13, .mv (.t 4), none⟩,
    ⟨none, .st 2 (.t 2) (.t 12), none⟩,
    ⟨some 3, .mv (.t 13), none⟩])
  .ret)
 .skip)))
 (.seq (.reg [
   ⟨some 5, .alloc 24 [(.int .i64 0), (.int .i64 0)], none⟩])
 (.seq (.seq (.reg [
   ⟨some 14, .mv (.t 0), none⟩,
   ⟨some 15, .len (.t 14), none⟩,
   ⟨some 16, .mv (.c (.int .i64 0)), none⟩])
 (.blk 0 (.loop 0 (.seq (.reg [
    ⟨some 17, .bin .lss (.t 16) (.t 15), none⟩])
  (.seq (.cond (.t 17) .skip
  (.exit 0))
  (.seq (.blk 1 (.seq (.reg [
    ⟨some 18, .ia (.t 14) (.t 16) 8, none⟩,
    ⟨some 19, .ld 8 true (.t 18), none⟩,
    ⟨some 7, .alloc 28 [(.int .i64 0), (.int .i64 0), (.int .i64 0), (.int .i64 0), (.int .i64 0), (.int .i64 0), (.int .i64 0), (.bool false)], none⟩,
    ⟨none, .st 8 (.t 7) (.t 19), none⟩])
  (.reg [
    ⟨some 21, .ld 2 true (.t 5), none⟩,
    ⟨some 22, .fa (.t 7) 2, none⟩,
    ⟨some 23, .fa (.t 22) 2, none⟩,
    ⟨some 24, .ld 2 true (.t 23), none⟩,
    ⟨some 25, .call (.f 57) [(.t 21), (.t 24)], none⟩,
    ⟨some 20, .mv (.t 25), none⟩,
    ⟨some 26, .ext (.t 20) 0, none⟩,
    ⟨some 27, .ext (.t 20) 1, none⟩,
    ⟨none, .st 2 (.t 5) (.t 26), none⟩])))
  (.reg [
    ⟨some 28, .bin .add (.t 16) (.c (.int .i64 1)), none⟩,
    ⟨some 16, .mv (.t 28), none⟩])))))))
 (.seq (.reg [
   ⟨some 29, .ld 2 true (.t 5), none⟩,
   ⟨none, .st 2 (.t 2) (.t 29), none⟩,
   ⟨some 3, .mv (.c (.int .i64 0)), none⟩])
 .ret))))),
  [.cell 2 2 true, .tmp 3]⟩
theorem c20 : chkFn Tryz.prog Tryz.f20 a20 = true := by kernel_rfl

/-- besom/besomref05.Momentum -/
def a21 : AFn := ⟨1, (.seq (.reg [
   ⟨some 2, .alloc 24 [(.int .i64 0), (.int .i64 0)], none⟩,
   ⟨some 3, .mv (.c (.int .i64 0)), none⟩])
 (.seq (.reg [
   ⟨some 7, .mv (.t 0), none⟩,
   ⟨some 8, .call (.f 58) [(.t 7)], none⟩,
   ⟨some 4, .mv (.t 8), none⟩])
 (.seq (.seq (.reg [
   ⟨some 9, .mv (.t 4), none⟩,
   ⟨some 10, .not (.t 9), none⟩])
 (.cond (.t 10) (.seq (.reg [
    ⟨some 11, .bld [(.int .i64 0), (.int .i64 0)] [], none⟩,
    ⟨none, .st 2 (.t 2) (.t 11), none⟩,
    ⟨some 3, .mv (.c (.int .i64 2)), none⟩])
  .ret)
 .skip))
 (.seq (.reg [
   ⟨some 12, .bld [(.int .i64 0), (.int .i64 0)] [], none⟩,
   ⟨some 5, .alloc 24 [(.int .i64 0), (.int .i64 0)], none⟩,
   ⟨none, .st 2 (.t 5) (.t 12), none⟩])
 (.seq (.seq (.reg [
   ⟨some 6, .mv (.c (.int .i64 0)), none⟩])
 (.blk 0 (.loop 0 (.seq (.seq (.reg [
    ⟨some 13, .mv (.t 6), none⟩,
    ⟨some 14, .mv (.t 0), none⟩,
    ⟨some 15, .len (.t 14), none⟩,
    ⟨some 16, .bin .lss (.t 13) (.t 15), none⟩])
  (.cond (.t 16) .skip
  (.exit 0)))
  (.seq (.blk 1 (.seq (.drw [
    (⟨some 19, .fa (.t 5) 0, none⟩, []),
    (⟨some 20, .ld 1 false (.t 19), none⟩, [0]),
    (⟨some 21, .mv (.t 0), none⟩, []),
    (⟨some 22, .mv (.t 6), none⟩, []),
    (⟨some 23, .ia (.t 21) (.t 22) 8, none⟩, [2, 3]),
    (⟨some 24, .fa (.t 23) 2, none⟩, [4, 2, 3]),
    (⟨some 25, .fa (.t 24) 2, none⟩, [5, 4, 2, 3]),
    (⟨some 26, .fa (.t 25) 0, none⟩, [6, 5, 4, 2, 3]),
    (⟨some 27, .ld 1 false (.t 26), none⟩, [7, 6, 5, 4, 2, 3]),
    (⟨some 28, .bin .add (.t 20) (.t 27), none⟩, [1, 0, 8, 7, 6, 5, 4, 2, 3]),
    (⟨some 29, .fa (.t 5) 0, none⟩, [0, 1, 2, 3, 4, 5, 6, 7, 8, 9]),
    (⟨none, .st 1 (.t 29) (.t 28), none⟩, [10, 0, 1, 2, 3, 4, 5, 6, 7, 8, 9])])
  (.drw [
    (⟨some 30, .fa (.t 5) 1, none⟩, []),
    (⟨some 31, .ld 1 false (.t 30), none⟩, [0]),
    (⟨some 32, .mv (.t 0), none⟩, []),
    (⟨some 33, .mv (.t 6), none⟩, []),
    (⟨some 34, .ia (.t 32) (.t 33) 8, none⟩, [2, 3]),
    (⟨some 35, .fa (.t 34) 2, none⟩, [4, 2, 3]),
    (⟨some 36, .fa (.t 35) 2, none⟩, [5, 4, 2, 3]),
    (⟨some 37, .fa (.t 36) 1, none⟩, [6, 5, 4, 2, 3]),
    (⟨some 38, .ld 1 false (.t 37), none⟩, [7, 6, 5, 4, 2, 3]),
    (⟨some 39, .bin .add (.t 31) (.t 38), none⟩, [1, 0, 8, 7, 6, 5, 4, 2, 3]),
    (⟨some 40, .fa (.t 5) 1, none⟩, [0, 1, 2, 3, 4, 5, 6, 7, 8, 9]),
    (⟨none, .st 1 (.t 40) (.t 39), none⟩, [10, 0, 1, 2, 3, 4, 5, 6, 7, 8, 9])])))
  (.reg [
    ⟨some 17, .mv (.t 6), none⟩,
    ⟨some 18, .bin .add (.t 17) (.c (.int .i64 1)), none⟩,
    ⟨some 6, .mv (.t 18), none⟩]))))))
 (.seq (.reg [
   ⟨some 41, .ld 2 true (.t 5), none⟩,
   ⟨none, .st 2 (.t 2) (.t 41), none⟩,
   ⟨some 3, .mv (.c (.int .i64 0)), none⟩])
 .ret)))))),
  [.cell 2 2 true, .tmp 3]⟩
theorem c21 : chkFn Tryz.prog Tryz.f21 a21 = true := by kernel_rfl

/-- besom/contact.Still -/
def a22 : AFn := ⟨1, (.seq (.reg [
   ⟨some 2, .mv (.c (.bool false)), none⟩,
   ⟨some 3, .mv (.c (.int .i64 0)), none⟩])
 (.seq (.seq (.reg [
   ⟨some 5, .mv (.t 0), none⟩,
   ⟨some 6, .call (.f 28) [(.t 5)], none⟩,
   ⟨some 4, .mv (.t 6), none⟩])
 (.seq (.reg [
   ⟨some 7, .mv (.t 4), none⟩,
   ⟨some 8, .bin .neq (.t 7) (.c (.int .i64 0)), none⟩])
 (.cond (.t 8) (.seq (.reg [
    ⟨some 9, .mv (.t 4), none⟩,
    ⟨some 2, .mv (.c (.bool false)), none⟩,
    ⟨some 3, .mv (.t 9), none⟩])
  .ret)
 .skip)))
 (.seq (.reg [
   ⟨some 10, .mv (.t 0), none⟩,
   ⟨some 11, .call (.f 59) [(.t 10)], none⟩,
   ⟨some 12, .call (.f 60) [(.t 11)], none⟩,
   ⟨some 2, .mv (.t 12), none⟩,
   ⟨some 3, .mv (.c (.int .i64 0)), none⟩])
 .ret))),
  [.tmp 2, .tmp 3]⟩
theorem c22 : chkFn Tryz.prog Tryz.f22 a22 = true := by kernel_rfl

/-- besom/besomref05.Still -/
def a23 : AFn := ⟨1, (.seq (.reg [
   ⟨some 2, .mv (.c (.bool false)), none⟩,
   ⟨some 3, .mv (.c (.int .i64 0)), none⟩])
 (.seq (.reg [
   ⟨some 5, .mv (.t 0), none⟩,
   ⟨some 6, .call (.f 58) [(.t 5)], none⟩,
   ⟨some 4, .mv (.t 6), none⟩])
 (.seq (.seq (.reg [
   ⟨some 7, .mv (.t 4), none⟩,
   ⟨some 8, .not (.t 7), none⟩])
 (.cond (.t 8) (.seq (.reg [
    ⟨some 2, .mv (.c (.bool false)), none⟩,
    ⟨some 3, .mv (.c (.int .i64 2)), none⟩])
  .ret)
 .skip))
 (.seq (.reg [
   ⟨some 9, .mv (.t 0), none⟩,
   ⟨some 10, .call (.f 61) [(.t 9)], none⟩,
   ⟨some 2, .mv (.t 10), none⟩,
   ⟨some 3, .mv (.c (.int .i64 0)), none⟩])
 .ret)))),
  [.tmp 2, .tmp 3]⟩
theorem c23 : chkFn Tryz.prog Tryz.f23 a23 = true := by kernel_rfl

/-- besom/contact.Stones -/
def a24 : AFn := ⟨1, (.seq (.reg [
   ⟨some 2, .mvn 120 [.int .i64, .int .i64, .int .i64, .int .i64], none⟩,
   ⟨some 3, .mv (.c (.int .i64 0)), none⟩])
 (.seq (.seq (.reg [
   ⟨some 8, .mv (.t 0), none⟩,
   ⟨some 9, .call (.f 28) [(.t 8)], none⟩,
   ⟨some 4, .mv (.t 9), none⟩])
 (.seq (.reg [
   ⟨some 10, .mv (.t 4), none⟩,
   ⟨some 11, .bin .neq (.t 10) (.c (.int .i64 0)), none⟩])
 (.cond (.t 11) (.seq (.reg [
    ⟨some 12, .mv (.t 4), none⟩,
    ⟨some 2, .mvn 120 [.int .i64, .int .i64, .int .i64, .int .i64], none⟩,
    ⟨some 3, .mv (.t 12), none⟩])
  .ret)
 .skip)))
 (.seq (.reg [
   ⟨some 5, .mvn 120 [.int .i64, .int .i64, .int .i64, .int .i64], none⟩])
 (.seq (.seq (.reg [
   ⟨some 13, .mv (.t 0), none⟩,
   ⟨some 14, .len (.t 13), none⟩,
   ⟨some 15, .mv (.c (.int .i64 0)), none⟩])
 (.blk 0 (.loop 0 (.seq (.reg [
    ⟨some 16, .bin .lss (.t 15) (.t 14), none⟩])
  (.seq (.cond (.t 16) .skip
  (.exit 0))
  (.seq (.blk 1 (.seq (.reg [
    ⟨some 17, .ia (.t 13) (.t 15) 8, none⟩,
    ⟨some 18, .ld 8 true (.t 17), none⟩,
    ⟨some 7, .alloc 28 [(.int .i64 0), (.int .i64 0), (.int .i64 0), (.int .i64 0), (.int .i64 0), (.int .i64 0), (.int .i64 0), (.bool false)], none⟩,
    ⟨none, .st 8 (.t 7) (.t 18), none⟩])
  (.seq (.reg [
    ⟨some 19, .fa (.t 7) 7, none⟩,
    ⟨some 20, .ld 1 false (.t 19), none⟩,
    ⟨some 21, .not (.t 20), none⟩])
  (.cond (.t 21) (.reg [
     ⟨some 22, .mv (.t 5), none⟩,
     ⟨some 23, .fa (.t 7) 0, none⟩,
     ⟨some 24, .ld 1 false (.t 23), none⟩,
     ⟨some 25, .fa (.t 7) 1, none⟩,
     ⟨some 26, .ld 1 false (.t 25), none⟩,
     ⟨some 27, .fa (.t 7) 2, none⟩,
     ⟨some 28, .fa (.t 27) 0, none⟩,
     ⟨some 29, .ld 2 true (.t 28), none⟩,
     ⟨some 30, .bld [(.int .i64 0), (.int .i64 0), (.int .i64 0), (.int .i64 0)] [(0, 1, (.t 24)), (1, 1, (.t 26)), (2, 2, (.t 29))], none⟩,
     ⟨some 31, .bsl 120 [.int .i64, .int .i64, .int .i64, .int .i64] 1 [(.int .i64 0), (.int .i64 0), (.int .i64 0), (.int .i64 0)] [(0, 4, (.t 30))], none⟩,
     ⟨some 32, .app 120 [.int .i64, .int .i64, .int .i64, .int .i64] 32 (.t 22) (.t 31), none⟩,
     ⟨some 5, .mv (.t 32), none⟩])
  .skip))))
  (.reg [
    ⟨some 33, .bin .add (.t 15) (.c (.int .i64 1)), none⟩,
    ⟨some 15, .mv (.t 33), none⟩])))))))
 (.seq (.reg [
   ⟨some 34, .mv (.t 5), none⟩,
   ⟨some 2, .mv (.t 34), none⟩,
   ⟨some 3, .mv (.c (.int .i64 0)), none⟩])
 .ret))))),
  [.tmp 2, .tmp 3]⟩
theorem c24 : chkFn Tryz.prog Tryz.f24 a24 = true := by kernel_rfl

/-- besom/besomref05.Stones -/
def a25 : AFn := ⟨1, (.seq (.reg [
   ⟨some 2, .mvn 120 [.int .i64, .int .i64, .int .i64, .int .i64], none⟩,
   ⟨some 3, .mv (.c (.int .i64 0)), none⟩])
 (.seq (.reg [
   ⟨some 7, .mv (.t 0), none⟩,
   ⟨some 8, .call (.f 58) [(.t 7)], none⟩,
   ⟨some 4, .mv (.t 8), none⟩])
 (.seq (.seq (.reg [
   ⟨some 9, .mv (.t 4), none⟩,
   ⟨some 10, .not (.t 9), none⟩])
 (.cond (.t 10) (.seq (.reg [
    ⟨some 2, .mvn 120 [.int .i64, .int .i64, .int .i64, .int .i64], none⟩,
    ⟨some 3, .mv (.c (.int .i64 2)), none⟩])
  .ret)
 .skip))
 (.seq (.reg [
   ⟨some 5, .mvn 120 [.int .i64, .int .i64, .int .i64, .int .i64], none⟩])
 (.seq (.seq (.reg [
   ⟨some 6, .mv (.c (.int .i64 0)), none⟩])
 (.blk 0 (.loop 0 (.seq (.seq (.reg [
    ⟨some 11, .mv (.t 6), none⟩,
    ⟨some 12, .mv (.t 0), none⟩,
    ⟨some 13, .len (.t 12), none⟩,
    ⟨some 14, .bin .lss (.t 11) (.t 13), none⟩])
  (.cond (.t 14) .skip
  (.exit 0)))
  (.seq (.blk 1 (.seq (.reg [
    ⟨some 17, .mv (.t 0), none⟩,
    ⟨some 18, .mv (.t 6), none⟩,
    ⟨some 19, .ia (.t 17) (.t 18) 8, none⟩,
    ⟨some 20, .fa (.t 19) 7, none⟩,
    ⟨some 21, .ld 1 false (.t 20), none⟩,
    ⟨some 22, .not (.t 21), none⟩])
  (.cond (.t 22) (.drw [
     (⟨some 23, .mv (.t 5), none⟩, []),
     (⟨some 24, .mv (.t 0), none⟩, []),
     (⟨some 25, .mv (.t 6), none⟩, []),
     (⟨some 26, .ia (.t 24) (.t 25) 8, none⟩, [1, 2]),
     (⟨some 27, .fa (.t 26) 0, none⟩, [3, 1, 2]),
     (⟨some 28, .ld 1 false (.t 27), none⟩, [4, 3, 1, 2]),
     (⟨some 29, .mv (.t 0), none⟩, []),
     (⟨some 30, .mv (.t 6), none⟩, []),
     (⟨some 31, .ia (.t 29) (.t 30) 8, none⟩, [6, 7]),
     (⟨some 32, .fa (.t 31) 1, none⟩, [8, 6, 7]),
     (⟨some 33, .ld 1 false (.t 32), none⟩, [9, 8, 6, 7]),
     (⟨some 34, .mv (.t 0), none⟩, []),
     (⟨some 35, .mv (.t 6), none⟩, []),
     (⟨some 36, .ia (.t 34) (.t 35) 8, none⟩, [11, 12]),
     (⟨some 37, .fa (.t 36) 2, none⟩, [13, 11, 12]),
     (⟨some 38, .fa (.t 37) 0, none⟩, [14, 13, 11, 12]),
     (⟨some 39, .ld 2 true (.t 38), none⟩, [15, 14, 13, 11, 12]),
     (⟨some 40, .bld [(.int .i64 0), (.int .i64 0), (.int .i64 0), (.int .i64 0)] [(0, 1, (.t 28)), (1, 1, (.t 33)), (2, 2, (.t 39))], none⟩, [5, 4, 3, 1, 2, 10, 9, 8, 6, 7, 16, 15, 14, 13, 11, 12]),
     (⟨some 41, .bsl 120 [.int .i64, .int .i64, .int .i64, .int .i64] 1 [(.int .i64 0), (.int .i64 0), (.int .i64 0), (.int .i64 0)] [(0, 4, (.t 40))], none⟩, [17, 5, 4, 3, 1, 2, 10, 9, 8, 6, 7, 16, 15, 14, 13, 11, 12]),
     (⟨some 42, .app 120 [.int .i64, .int .i64, .int .i64, .int .i64] 32 (.t 23) (.t 41), none⟩, [0, 18, 17, 5, 4, 3, 1, 2, 10, 9, 8, 6, 7, 16, 15, 14, 13, 11, 12]),
     (⟨some 5, .mv (.t 42), none⟩, [19, 0, 18, 17, 5, 4, 3, 1, 2, 10, 9, 8, 6, 7, 16, 15, 14, 13, 11, 12])])
  .skip)))
  (.reg [
    ⟨some 15, .mv (.t 6), none⟩,
    ⟨some 16, .bin .add (.t 15) (.c (.int .i64 1)), none⟩,
    ⟨some 6, .mv (.t 16), none⟩]))))))
 (.seq (.reg [
   ⟨some 43, .mv (.t 5), none⟩,
   ⟨some 2, .mv (.t 43), none⟩,
   ⟨some 3, .mv (.c (.int .i64 0)), none⟩])
 .ret)))))),
  [.tmp 2, .tmp 3]⟩
theorem c25 : chkFn Tryz.prog Tryz.f25 a25 = true := by kernel_rfl

/-- besom/contact.Place -/
def a26 : AFn := ⟨1, (.seq (.reg [
   ⟨some 2, .mvn 28 [.int .i64, .int .i64, .int .i64, .int .i64, .int .i64, .int .i64, .int .i64, .bool], none⟩,
   ⟨some 3, .mv (.c (.int .i64 0)), none⟩])
 (.seq (.seq (.reg [
   ⟨some 8, .mv (.t 0), none⟩,
   ⟨some 9, .len (.t 8), none⟩,
   ⟨some 10, .bin .gtr (.t 9) (.c (.int .i64 16)), none⟩])
 (.cond (.t 10) (.seq (.reg [
    ⟨some 2, .mvn 28 [.int .i64, .int .i64, .int .i64, .int .i64, .int .i64, .int .i64, .int .i64, .bool], none⟩,
    ⟨some 3, .mv (.c (.int .i64 3)), none⟩])
  .ret)
 .skip))
 (.seq (.reg [
   ⟨some 4, .mvn 28 [.int .i64, .int .i64, .int .i64, .int .i64, .int .i64, .int .i64, .int .i64, .bool], none⟩])
 (.seq (.seq (.reg [
   ⟨some 11, .mv (.t 0), none⟩,
   ⟨some 12, .len (.t 11), none⟩,
   ⟨some 13, .mv (.c (.int .i64 0)), none⟩])
 (.blk 0 (.loop 0 (.seq (.reg [
    ⟨some 14, .bin .lss (.t 13) (.t 12), none⟩])
  (.seq (.cond (.t 14) .skip
  (.exit 0))
  (.seq (.blk 1 (.seq (.reg [
    ⟨some 15, .ia (.t 11) (.t 13) 4, none⟩,
    ⟨some 16, .ld 4 true (.t 15), none⟩,
    ⟨some 6, .alloc 120 [(.int .i64 0), (.int .i64 0), (.int .i64 0), (.int .i64 0)], none⟩,
    ⟨none, .st 4 (.t 6) (.t 16), none⟩])
  (.reg [
    ⟨some 17, .mv (.t 4), none⟩,
    ⟨some 18, .fa (.t 6) 0, none⟩,
    ⟨some 19, .ld 1 false (.t 18), none⟩,
    ⟨some 20, .fa (.t 6) 1, none⟩,
    ⟨some 21, .ld 1 false (.t 20), none⟩,
    ⟨some 22, .fa (.t 6) 2, none⟩,
    ⟨some 23, .ld 2 true (.t 22), none⟩,
    ⟨some 24, .bld [(.int .i64 0), (.int .i64 0), (.int .i64 0), (.int .i64 0), (.int .i64 0)] [(0, 2, (.t 23))], none⟩,
    ⟨some 25, .bld [(.int .i64 0), (.int .i64 0), (.int .i64 0), (.int .i64 0), (.int .i64 0), (.int .i64 0), (.int .i64 0), (.bool false)] [(0, 1, (.t 19)), (1, 1, (.t 21)), (2, 5, (.t 24))], none⟩,
    ⟨some 26, .bsl 28 [.int .i64, .int .i64, .int .i64, .int .i64, .int .i64, .int .i64, .int .i64, .bool] 1 [(.int .i64 0), (.int .i64 0), (.int .i64 0), (.int .i64 0), (.int .i64 0), (.int .i64 0), (.int .i64 0), (.bool false)] [(0, 8, (.t 25))], none⟩,
    ⟨some 27, .app 28 [.int .i64, .int .i64, .int .i64, .int .i64, .int .i64, .int .i64, .int .i64, .bool] 64 (.t 17) (.t 26), none⟩,
    ⟨some 4, .mv (.t 27), none⟩])))
  (.reg [
    ⟨some 28, .bin .add (.t 13) (.c (.int .i64 1)), none⟩,
    ⟨some 13, .mv (.t 28), none⟩])))))))
 (.seq (.seq (.reg [
   ⟨some 29, .mv (.t 4), none⟩,
   ⟨some 30, .call (.f 28) [(.t 29)], none⟩,
   ⟨some 7, .mv (.t 30), none⟩])
 (.seq (.reg [
   ⟨some 31, .mv (.t 7), none⟩,
   ⟨some 32, .bin .neq (.t 31) (.c (.int .i64 0)), none⟩])
 (.cond (.t 32) (.seq (.reg [
    ⟨some 33, .mv (.t 7), none⟩,
    ⟨some 2, .mvn 28 [.int .i64, .int .i64, .int .i64, .int .i64, .int .i64, .int .i64, .int .i64, .bool], none⟩,
    ⟨some 3, .mv (.t 33), none⟩])
  .ret)
 .skip)))
 (.seq (.reg [
   ⟨some 34, .mv (.t 4), none⟩,
   ⟨some 2, .mv (.t 34), none⟩,
   ⟨some 3, .mv (.c (.int .i64 0)), none⟩])
 .ret)))))),
  [.tmp 2, .tmp 3]⟩
theorem c26 : chkFn Tryz.prog Tryz.f26 a26 = true := by kernel_rfl

/-- besom/besomref05.Place -/
def a27 : AFn := ⟨1, (.seq (.reg [
   ⟨some 2, .mvn 28 [.int .i64, .int .i64, .int .i64, .int .i64, .int .i64, .int .i64, .int .i64, .bool], none⟩,
   ⟨some 3, .mv (.c (.int .i64 0)), none⟩])
 (.seq (.seq (.reg [
   ⟨some 7, .mv (.t 0), none⟩,
   ⟨some 8, .len (.t 7), none⟩,
   ⟨some 9, .bin .gtr (.t 8) (.c (.int .i64 16)), none⟩])
 (.cond (.t 9) (.seq (.reg [
    ⟨some 2, .mvn 28 [.int .i64, .int .i64, .int .i64, .int .i64, .int .i64, .int .i64, .int .i64, .bool], none⟩,
    ⟨some 3, .mv (.c (.int .i64 3)), none⟩])
  .ret)
 .skip))
 (.seq (.reg [
   ⟨some 4, .mvn 28 [.int .i64, .int .i64, .int .i64, .int .i64, .int .i64, .int .i64, .int .i64, .bool], none⟩])
 (.seq (.seq (.reg [
   ⟨some 5, .mv (.c (.int .i64 0)), none⟩])
 (.blk 0 (.loop 0 (.seq (.seq (.reg [
    ⟨some 10, .mv (.t 5), none⟩,
    ⟨some 11, .mv (.t 0), none⟩,
    ⟨some 12, .len (.t 11), none⟩,
    ⟨some 13, .bin .lss (.t 10) (.t 12), none⟩])
  (.cond (.t 13) .skip
  (.exit 0)))
  (.seq (.blk 1 (.drw [
    (⟨some 16, .mv (.t 4), none⟩, []),
    (⟨some 17, .mv (.t 0), none⟩, []),
    (⟨some 18, .mv (.t 5), none⟩, []),
    (⟨some 19, .ia (.t 17) (.t 18) 4, none⟩, [1, 2]),
    (⟨some 20, .fa (.t 19) 0, none⟩, [3, 1, 2]),
    (⟨some 21, .ld 1 false (.t 20), none⟩, [4, 3, 1, 2]),
    (⟨some 22, .mv (.t 0), none⟩, []),
    (⟨some 23, .mv (.t 5), none⟩, []),
    (⟨some 24, .ia (.t 22) (.t 23) 4, none⟩, [6, 7]),
    (⟨some 25, .fa (.t 24) 1, none⟩, [8, 6, 7]),
    (⟨some 26, .ld 1 false (.t 25), none⟩, [9, 8, 6, 7]),
    (⟨some 27, .mv (.t 0), none⟩, []),
    (⟨some 28, .mv (.t 5), none⟩, []),
    (⟨some 29, .ia (.t 27) (.t 28) 4, none⟩, [11, 12]),
    (⟨some 30, .fa (.t 29) 2, none⟩, [13, 11, 12]),
    (⟨some 31, .ld 2 true (.t 30), none⟩, [14, 13, 11, 12]),
    (⟨some 32, .bld [(.int .i64 0), (.int .i64 0), (.int .i64 0), (.int .i64 0), (.int .i64 0)] [(0, 2, (.t 31))], none⟩, [15, 14, 13, 11, 12]),
    (⟨some 33, .bld [(.int .i64 0), (.int .i64 0), (.int .i64 0), (.int .i64 0), (.int .i64 0), (.int .i64 0), (.int .i64 0), (.bool false)] [(0, 1, (.t 21)), (1, 1, (.t 26)), (2, 5, (.t 32))], none⟩, [5, 4, 3, 1, 2, 10, 9, 8, 6, 7, 16, 15, 14, 13, 11, 12]),
    (⟨some 34, .bsl 28 [.int .i64, .int .i64, .int .i64, .int .i64, .int .i64, .int .i64, .int .i64, .bool] 1 [(.int .i64 0), (.int .i64 0), (.int .i64 0), (.int .i64 0), (.int .i64 0), (.int .i64 0), (.int .i64 0), (.bool false)] [(0, 8, (.t 33))], none⟩, [17, 5, 4, 3, 1, 2, 10, 9, 8, 6, 7, 16, 15, 14, 13, 11, 12]),
    (⟨some 35, .app 28 [.int .i64, .int .i64, .int .i64, .int .i64, .int .i64, .int .i64, .int .i64, .bool] 64 (.t 16) (.t 34), none⟩, [0, 18, 17, 5, 4, 3, 1, 2, 10, 9, 8, 6, 7, 16, 15, 14, 13, 11, 12]),
    (⟨some 4, .mv (.t 35), none⟩, [19, 0, 18, 17, 5, 4, 3, 1, 2, 10, 9, 8, 6, 7, 16, 15, 14, 13, 11, 12])]))
  (.reg [
    ⟨some 14, .mv (.t 5), none⟩,
    ⟨some 15, .bin .add (.t 14) (.c (.int .i64 1)), none⟩,
    ⟨some 5, .mv (.t 15), none⟩]))))))
 (.seq (.reg [
   ⟨some 36, .mv (.t 4), none⟩,
   ⟨some 37, .call (.f 58) [(.t 36)], none⟩,
   ⟨some 6, .mv (.t 37), none⟩])
 (.seq (.seq (.reg [
   ⟨some 38, .mv (.t 6), none⟩,
   ⟨some 39, .not (.t 38), none⟩])
 (.cond (.t 39) (.seq (.reg [
    ⟨some 2, .mvn 28 [.int .i64, .int .i64, .int .i64, .int .i64, .int .i64, .int .i64, .int .i64, .bool], none⟩,
    ⟨some 3, .mv (.c (.int .i64 2)), none⟩])
  .ret)
 .skip))
 (.seq (.reg [
   ⟨some 40, .mv (.t 4), none⟩,
   ⟨some 2, .mv (.t 40), none⟩,
   ⟨some 3, .mv (.c (.int .i64 0)), none⟩])
 .ret))))))),
  [.tmp 2, .tmp 3]⟩
theorem c27 : chkFn Tryz.prog Tryz.f27 a27 = true := by kernel_rfl

/-- besom/contact.Check -/
def a28 : AFn := ⟨1, (.seq (.reg [
   ⟨some 2, .mv (.c (.int .i64 0)), none⟩])
 (.seq (.seq (.reg [
   ⟨some 7, .mv (.t 0), none⟩,
   ⟨some 8, .len (.t 7), none⟩,
   ⟨some 9, .bin .gtr (.t 8) (.c (.int .i64 16)), none⟩])
 (.cond (.t 9) (.seq (.reg [
    ⟨some 2, .mv (.c (.int .i64 2)), none⟩])
  .ret)
 .skip))
 (.seq (.reg [
   ⟨some 10, .mkm true [.int .i64, .int .i64] false [.bool], none⟩,
   ⟨some 3, .mv (.t 10), none⟩])
 (.seq (.seq (.reg [
   ⟨some 11, .mv (.t 0), none⟩,
   ⟨some 12, .len (.t 11), none⟩,
   ⟨some 13, .mv (.c (.int .i64 0)), none⟩])
 (.blk 0 (.loop 0 (.seq (.reg [
    ⟨some 14, .bin .lss (.t 13) (.t 12), none⟩])
  (.seq (.cond (.t 14) .skip
  (.exit 0))
  (.seq (.blk 1 (.seq (.reg [
    ⟨some 15, .ia (.t 11) (.t 13) 8, none⟩,
    ⟨some 16, .ld 8 true (.t 15), none⟩,
    ⟨some 5, .alloc 28 [(.int .i64 0), (.int .i64 0), (.int .i64 0), (.int .i64 0), (.int .i64 0), (.int .i64 0), (.int .i64 0), (.bool false)], none⟩,
    ⟨none, .st 8 (.t 5) (.t 16), none⟩])
  (.seq (.reg [
    ⟨some 17, .ld 8 true (.t 5), none⟩,
    ⟨some 18, .bld [(.int .i64 0), (.int .i64 0), (.int .i64 0), (.int .i64 0), (.int .i64 0), (.int .i64 0), (.int .i64 0), (.bool false)] [(0, 8, (.t 17))], none⟩,
    ⟨some 6, .alloc 106 [(.int .i64 0), (.int .i64 0), (.int .i64 0), (.int .i64 0), (.int .i64 0), (.int .i64 0), (.int .i64 0), (.bool false)], none⟩,
    ⟨none, .st 8 (.t 6) (.t 18), none⟩])
  (.seq (.seq (.reg [
    ⟨some 19, .ld 8 true (.t 6), none⟩,
    ⟨some 20, .call (.f 44) [(.t 19)], none⟩,
    ⟨some 21, .not (.t 20), none⟩,
    ⟨some 22, .mv (.t 21), none⟩,
    ⟨some 23, .mv (.t 3), some (22, false)⟩,
    ⟨some 24, .fa (.t 6) 0, some (22, false)⟩,
    ⟨some 25, .fa (.t 24) 0, some (22, false)⟩,
    ⟨some 26, .ld 1 false (.t 25), some (22, false)⟩,
    ⟨some 27, .fa (.t 6) 0, some (22, false)⟩,
    ⟨some 28, .fa (.t 27) 1, some (22, false)⟩,
    ⟨some 29, .ld 1 false (.t 28), some (22, false)⟩,
    ⟨some 30, .bld [(.int .i64 0), (.int .i64 0)] [(0, 1, (.t 26)), (1, 1, (.t 29))], some (22, false)⟩,
    ⟨some 31, .mlk true [.int .i64, .int .i64] false [.bool] false (.t 23) (.t 30), some (22, false)⟩,
    ⟨some 32, .pick (.t 22) (.c (.bool true)) (.t 31), none⟩,
    ⟨some 33, .mv (.t 32), none⟩,
    ⟨some 34, .fa (.t 6) 0, some (33, false)⟩,
    ⟨some 35, .fa (.t 34) 7, some (33, false)⟩,
    ⟨some 36, .ld 1 false (.t 35), some (33, false)⟩,
    ⟨some 37, .mv (.t 36), some (33, false)⟩,
    ⟨some 38, .ld 8 true (.t 6), some (37, true)⟩,
    ⟨some 39, .call (.f 62) [(.t 38)], some (37, true)⟩,
    ⟨some 40, .not (.t 39), some (37, true)⟩,
    ⟨some 41, .mv (.t 40), some (37, true)⟩,
    ⟨some 42, .fa (.t 6) 0, some (41, false)⟩,
    ⟨some 43, .fa (.t 42) 2, some (41, false)⟩,
    ⟨some 44, .fa (.t 43) 4, some (41, false)⟩,
    ⟨some 45, .ld 1 false (.t 44), some (41, false)⟩,
    ⟨some 46, .bin .neq (.t 45) (.c (.int .i64 0)), some (41, false)⟩,
    ⟨some 47, .pick (.t 41) (.c (.bool true)) (.t 46), some (37, true)⟩,
    ⟨some 48, .pick (.t 37) (.t 47) (.c (.bool false)), some (33, false)⟩,
    ⟨some 49, .pick (.t 33) (.c (.bool true)) (.t 48), none⟩])
  (.cond (.t 49) (.seq (.reg [
     ⟨some 2, .mv (.c (.int .i64 2)), none⟩])
   .ret)
  .skip))
  (.reg [
    ⟨some 50, .mv (.t 3), none⟩,
    ⟨some 51, .fa (.t 6) 0, none⟩,
    ⟨some 52, .fa (.t 51) 0, none⟩,
    ⟨some 53, .ld 1 false (.t 52), none⟩,
    ⟨some 54, .fa (.t 6) 0, none⟩,
    ⟨some 55, .fa (.t 54) 1, none⟩,
    ⟨some 56, .ld 1 false (.t 55), none⟩,
    ⟨some 57, .bld [(.int .i64 0), (.int .i64 0)] [(0, 1, (.t 53)), (1, 1, (.t 56))], none⟩,
    ⟨none, .mup true [.int .i64, .int .i64] false [.bool] (.t 50) (.t 57) (.c (.bool true)), none⟩])))))
  (.reg [
    ⟨some 58, .bin .add (.t 13) (.c (.int .i64 1)), none⟩,
    ⟨some 13, .mv (.t 58), none⟩])))))))
 (.seq (.reg [
   ⟨some 2, .mv (.c (.int .i64 0)), none⟩])
 .ret))))),
  [.tmp 2]⟩
theorem c28 : chkFn Tryz.prog Tryz.f28 a28 = true := by kernel_rfl

/-- besom/besomref05.Check -/
def a29 : AFn := ⟨1, (.seq (.reg [
   ⟨some 2, .mv (.c (.int .i64 0)), none⟩])
 (.seq (.reg [
   ⟨some 4, .mv (.t 0), none⟩,
   ⟨some 5, .call (.f 58) [(.t 4)], none⟩,
   ⟨some 3, .mv (.t 5), none⟩])
 (.seq (.seq (.reg [
   ⟨some 6, .mv (.t 3), none⟩,
   ⟨some 7, .not (.t 6), none⟩])
 (.cond (.t 7) (.seq (.reg [
    ⟨some 2, .mv (.c (.int .i64 2)), none⟩])
  .ret)
 .skip))
 (.seq (.reg [
   ⟨some 2, .mv (.c (.int .i64 0)), none⟩])
 .ret)))),
  [.tmp 2]⟩
theorem c29 : chkFn Tryz.prog Tryz.f29 a29 = true := by kernel_rfl

/-- besom/besomref05.Placed -/
def a30 : AFn := ⟨2, (.seq (.reg [
   ⟨some 4, .mv (.c (.bool false)), none⟩])
 (.seq (.seq (.reg [
   ⟨some 6, .mv (.t 0), none⟩,
   ⟨some 7, .len (.t 6), none⟩,
   ⟨some 8, .mv (.t 1), none⟩,
   ⟨some 9, .len (.t 8), none⟩,
   ⟨some 10, .bin .neq (.t 7) (.t 9), none⟩])
 (.cond (.t 10) (.seq (.reg [
    ⟨some 4, .mv (.c (.bool false)), none⟩])
  .ret)
 .skip))
 (.seq (.seq (.reg [
   ⟨some 5, .mv (.c (.int .i64 0)), none⟩])
 (.blk 0 (.loop 0 (.seq (.seq (.reg [
    ⟨some 11, .mv (.t 5), none⟩,
    ⟨some 12, .mv (.t 0), none⟩,
    ⟨some 13, .len (.t 12), none⟩,
    ⟨some 14, .bin .lss (.t 11) (.t 13), none⟩])
  (.cond (.t 14) .skip
  (.exit 0)))
  (.seq (.blk 1 (.seq (.drw [
    (⟨some 17, .mv (.t 0), none⟩, []),
    (⟨some 18, .mv (.t 5), none⟩, []),
    (⟨some 19, .ia (.t 17) (.t 18) 4, none⟩, [0, 1]),
    (⟨some 20, .ld 4 true (.t 19), none⟩, [2, 0, 1]),
    (⟨some 21, .mv (.t 1), none⟩, []),
    (⟨some 22, .mv (.t 5), none⟩, []),
    (⟨some 23, .ia (.t 21) (.t 22) 4, none⟩, [4, 5]),
    (⟨some 24, .ld 4 true (.t 23), none⟩, [6, 4, 5]),
    (⟨some 25, .eqa true [.int .i64, .int .i64, .int .i64, .int .i64] (.t 20) (.t 24), none⟩, [3, 2, 0, 1, 7, 6, 4, 5])])
  (.cond (.t 25) (.seq (.reg [
     ⟨some 4, .mv (.c (.bool false)), none⟩])
   .ret)
  .skip)))
  (.reg [
    ⟨some 15, .mv (.t 5), none⟩,
    ⟨some 16, .bin .add (.t 15) (.c (.int .i64 1)), none⟩,
    ⟨some 5, .mv (.t 16), none⟩]))))))
 (.seq (.reg [
   ⟨some 4, .mv (.c (.bool true)), none⟩])
 .ret)))),
  [.tmp 4]⟩
theorem c30 : chkFn Tryz.prog Tryz.f30 a30 = true := by kernel_rfl

/-- besom/besomref05.Same -/
def a31 : AFn := ⟨2, (.seq (.reg [
   ⟨some 4, .mv (.c (.bool false)), none⟩])
 (.seq (.seq (.reg [
   ⟨some 6, .mv (.t 0), none⟩,
   ⟨some 7, .len (.t 6), none⟩,
   ⟨some 8, .mv (.t 1), none⟩,
   ⟨some 9, .len (.t 8), none⟩,
   ⟨some 10, .bin .neq (.t 7) (.t 9), none⟩])
 (.cond (.t 10) (.seq (.reg [
    ⟨some 4, .mv (.c (.bool false)), none⟩])
  .ret)
 .skip))
 (.seq (.seq (.reg [
   ⟨some 5, .mv (.c (.int .i64 0)), none⟩])
 (.blk 0 (.loop 0 (.seq (.seq (.reg [
    ⟨some 11, .mv (.t 5), none⟩,
    ⟨some 12, .mv (.t 0), none⟩,
    ⟨some 13, .len (.t 12), none⟩,
    ⟨some 14, .bin .lss (.t 11) (.t 13), none⟩])
  (.cond (.t 14) .skip
  (.exit 0)))
  (.seq (.blk 1 (.seq (.drw [
    (⟨some 17, .mv (.t 0), none⟩, []),
    (⟨some 18, .mv (.t 5), none⟩, []),
    (⟨some 19, .ia (.t 17) (.t 18) 8, none⟩, [0, 1]),
    (⟨some 20, .ld 8 true (.t 19), none⟩, [2, 0, 1]),
    (⟨some 21, .mv (.t 1), none⟩, []),
    (⟨some 22, .mv (.t 5), none⟩, []),
    (⟨some 23, .ia (.t 21) (.t 22) 8, none⟩, [4, 5]),
    (⟨some 24, .ld 8 true (.t 23), none⟩, [6, 4, 5]),
    (⟨some 25, .eqa true [.int .i64, .int .i64, .int .i64, .int .i64, .int .i64, .int .i64, .int .i64, .bool] (.t 20) (.t 24), none⟩, [3, 2, 0, 1, 7, 6, 4, 5])])
  (.cond (.t 25) (.seq (.reg [
     ⟨some 4, .mv (.c (.bool false)), none⟩])
   .ret)
  .skip)))
  (.reg [
    ⟨some 15, .mv (.t 5), none⟩,
    ⟨some 16, .bin .add (.t 15) (.c (.int .i64 1)), none⟩,
    ⟨some 5, .mv (.t 16), none⟩]))))))
 (.seq (.reg [
   ⟨some 4, .mv (.c (.bool true)), none⟩])
 .ret)))),
  [.tmp 4]⟩
theorem c31 : chkFn Tryz.prog Tryz.f31 a31 = true := by kernel_rfl

/-- besom/besomref03.Great -/
def a32 : AFn := ⟨2, (.seq (.reg [
   ⟨some 2, .box 67 (.t 0), none⟩,
   ⟨some 4, .mv (.c (.bool false)), none⟩])
 (.seq (.reg [
   ⟨some 5, .fa (.t 2) 5, none⟩,
   ⟨some 6, .ld 1 false (.t 5), none⟩,
   ⟨some 7, .len (.t 6), none⟩,
   ⟨some 8, .mv (.t 1), none⟩,
   ⟨some 9, .bin .gtr (.t 7) (.t 8), none⟩,
   ⟨some 10, .mv (.t 9), none⟩,
   ⟨some 11, .fa (.t 2) 6, some (10, false)⟩,
   ⟨some 12, .ld 1 false (.t 11), some (10, false)⟩,
   ⟨some 13, .len (.t 12), some (10, false)⟩,
   ⟨some 14, .mv (.t 1), some (10, false)⟩,
   ⟨some 15, .bin .gtr (.t 13) (.t 14), some (10, false)⟩,
   ⟨some 16, .pick (.t 10) (.c (.bool true)) (.t 15), none⟩,
   ⟨some 4, .mv (.t 16), none⟩])
 .ret)),
  [.tmp 4]⟩
theorem c32 : chkFn Tryz.prog Tryz.f32 a32 = true := by kernel_rfl

/-- besom/besomtop.sound -/
def a33 : AFn := ⟨0, (.seq (.reg [
   ⟨some 0, .mv (.c (.bool false)), none⟩])
 (.seq (.reg [
   ⟨some 7, .call (.f 63) [(.c (.int .i64 131072)), (.c (.int .i64 1))], none⟩,
   ⟨some 6, .mv (.t 7), none⟩,
   ⟨some 8, .ext (.t 6) 0, none⟩,
   ⟨some 9, .ext (.t 6) 1, none⟩,
   ⟨some 1, .mv (.t 8), none⟩,
   ⟨some 2, .mv (.t 9), none⟩])
 (.seq (.reg [
   ⟨some 10, .bsl 3 [.int .i64] 1 [(.int .i64 0)] [(0, 1, (.c (.int .i64 100)))], none⟩,
   ⟨some 11, .bsl 3 [.int .i64] 1 [(.int .i64 0)] [(0, 1, (.c (.int .i64 0)))], none⟩,
   ⟨some 12, .bld [(.int .i64 0), (.int .i64 0), (.int .i64 0), (.int .i64 0), (.int .i64 0), .nsl, .nsl] [(2, 1, (.c (.int .i64 10))), (3, 1, (.c (.int .i64 1))), (4, 1, (.c (.int .i64 1))), (5, 1, (.t 10)), (6, 1, (.t 11))], none⟩,
   ⟨some 3, .alloc 67 [(.int .i64 0), (.int .i64 0), (.int .i64 0), (.int .i64 0), (.int .i64 0), .nsl, .nsl], none⟩,
   ⟨none, .st 7 (.t 3) (.t 12), none⟩])
 (.seq (.reg [
   ⟨some 14, .ld 7 true (.t 3), none⟩,
   ⟨some 15, .bld [(.int .i64 0), (.int .i64 0), (.int .i64 0), (.int .i64 0), (.int .i64 0)] [(0, 1, (.c (.int .i64 1000))), (1, 1, (.c (.int .i64 500)))], none⟩,
   ⟨some 16, .bld [(.int .i64 0), (.int .i64 0)] [], none⟩,
   ⟨some 17, .call (.f 64) [(.t 14), (.t 15), (.t 16)], none⟩,
   ⟨some 13, .mv (.t 17), none⟩,
   ⟨some 18, .ext (.t 13) 0, none⟩,
   ⟨some 19, .ext (.t 13) 1, none⟩,
   ⟨some 4, .mv (.t 18), none⟩,
   ⟨some 5, .mv (.t 19), none⟩])
 (.seq (.reg [
   ⟨some 20, .mv (.t 1), none⟩,
   ⟨some 21, .bin .eql (.t 20) (.c (.int .i64 92681)), none⟩,
   ⟨some 22, .mv (.t 21), none⟩,
   ⟨some 23, .mv (.t 2), some (22, true)⟩,
   ⟨some 24, .bin .eql (.t 23) (.c (.int .i64 0)), some (22, true)⟩,
   ⟨some 25, .pick (.t 22) (.t 24) (.c (.bool false)), none⟩,
   ⟨some 26, .mv (.t 25), none⟩,
   ⟨some 27, .mv (.t 4), some (26, true)⟩,
   ⟨some 28, .bin .eql (.t 27) (.c (.int .i64 950)), some (26, true)⟩,
   ⟨some 29, .pick (.t 26) (.t 28) (.c (.bool false)), none⟩,
   ⟨some 30, .mv (.t 29), none⟩,
   ⟨some 31, .mv (.t 5), some (30, true)⟩,
   ⟨some 32, .bin .eql (.t 31) (.c (.int .i64 0)), some (30, true)⟩,
   ⟨some 33, .pick (.t 30) (.t 32) (.c (.bool false)), none⟩,
   ⟨some 0, .mv (.t 33), none⟩])
 .ret))))),
  [.tmp 0]⟩
theorem c33 : chkFn Tryz.prog Tryz.f33 a33 = true := by kernel_rfl

/-- besom/contact.Tick -/
def a34 : AFn := ⟨7, (.seq (.reg [
   ⟨some 7, .box 67 (.t 0), none⟩,
   ⟨some 8, .box 69 (.t 1), none⟩,
   ⟨some 13, .box 3 (.t 6), none⟩,
   ⟨some 14, .mvn 28 [.int .i64, .int .i64, .int .i64, .int .i64, .int .i64, .int .i64, .int .i64, .bool], none⟩,
   ⟨some 15, .alloc 74 [.nsl], none⟩,
   ⟨some 16, .mv (.c (.int .i64 0)), none⟩])
 (.seq (.reg [
   ⟨some 19, .ld 7 true (.t 7), none⟩,
   ⟨some 20, .ld 5 true (.t 8), none⟩,
   ⟨some 21, .mv (.t 3), none⟩,
   ⟨some 22, .mv (.t 4), none⟩,
   ⟨some 23, .mv (.t 5), none⟩,
   ⟨some 24, .bld [(.int .i64 0), (.int .i64 0), (.int .i64 0), (.int .i64 0), (.int .i64 0), .nsl, .nsl, (.int .i64 0), (.int .i64 0), (.int .i64 0), (.int .i64 0), (.int .i64 0), .nsl, (.int .i64 0), (.int .i64 0)] [(0, 7, (.t 19)), (7, 5, (.t 20)), (12, 1, (.t 21)), (13, 1, (.t 22)), (14, 1, (.t 23))], none⟩,
   ⟨some 17, .alloc 127 [(.int .i64 0), (.int .i64 0), (.int .i64 0), (.int .i64 0), (.int .i64 0), .nsl, .nsl, (.int .i64 0), (.int .i64 0), (.int .i64 0), (.int .i64 0), (.int .i64 0), .nsl, (.int .i64 0), (.int .i64 0)], none⟩,
   ⟨none, .st 15 (.t 17) (.t 24), none⟩])
 (.seq (.seq (.reg [
   ⟨some 25, .ld 15 true (.t 17), none⟩,
   ⟨some 26, .mv (.t 2), none⟩,
   ⟨some 27, .call (.f 65) [(.t 25), (.t 26)], none⟩,
   ⟨some 28, .not (.t 27), none⟩,
   ⟨some 29, .mv (.t 28), none⟩,
   ⟨some 30, .ld 1 false (.t 13), some (29, false)⟩,
   ⟨some 31, .call (.f 50) [(.t 30), (.c (.int .i64 0)), (.c (.int .i64 6000))], some (29, false)⟩,
   ⟨some 32, .not (.t 31), some (29, false)⟩,
   ⟨some 33, .pick (.t 29) (.c (.bool true)) (.t 32), none⟩])
 (.cond (.t 33) (.seq (.reg [
    ⟨some 14, .mvn 28 [.int .i64, .int .i64, .int .i64, .int .i64, .int .i64, .int .i64, .int .i64, .bool], none⟩,
    ⟨none, .st 1 (.t 15) (.c .nsl), none⟩,
    ⟨some 16, .mv (.c (.int .i64 2)), none⟩])
  .ret)
 .skip))
 (.seq (.reg [
   ⟨some 34, .mv (.t 2), none⟩,
   ⟨some 35, .call (.f 59) [(.t 34)], none⟩,
   ⟨some 18, .alloc 117 [.nsl], none⟩,
   ⟨none, .st 1 (.t 18) (.t 35), none⟩])
 (.seq (.reg [
   ⟨some 36, .mkf 66 [] [(.t 17), (.t 18), (.t 13), (.t 15)], none⟩,
   ⟨some 37, .call (.f 51) [(.t 36)], none⟩,
   ⟨some 16, .mv (.t 37), none⟩])
 (.seq (.seq (.reg [
   ⟨some 38, .mv (.t 16), none⟩,
   ⟨some 39, .bin .neq (.t 38) (.c (.int .i64 0)), none⟩])
 (.cond (.t 39) (.seq (.reg [
    ⟨some 40, .mv (.t 16), none⟩,
    ⟨some 14, .mvn 28 [.int .i64, .int .i64, .int .i64, .int .i64, .int .i64, .int .i64, .int .i64, .bool], none⟩,
    ⟨none, .st 1 (.t 15) (.c .nsl), none⟩,
    ⟨some 16, .mv (.t 40), none⟩])
  .ret)
 .skip))
 (.seq (.drw [
   (⟨some 41, .ld 1 false (.t 18), none⟩, []),
   (⟨some 42, .call (.f 68) [(.t 41)], none⟩, [0]),
   (⟨some 43, .ld 1 false (.t 15), none⟩, []),
   (⟨some 14, .mv (.t 42), none⟩, [1, 0]),
   (⟨none, .st 1 (.t 15) (.t 43), none⟩, [2, 3, 1, 0]),
   (⟨some 16, .mv (.c (.int .i64 0)), none⟩, [4, 2, 3, 1, 0])])
 .ret))))))),
  [.tmp 14, .cell 15 1 false, .tmp 16]⟩
theorem c34 : chkFn Tryz.prog Tryz.f34 a34 = true := by kernel_rfl

/-- besom/contact.Shot -/
def a35 : AFn := ⟨7, (.seq (.reg [
   ⟨some 7, .box 67 (.t 0), none⟩,
   ⟨some 8, .box 69 (.t 1), none⟩,
   ⟨some 13, .box 3 (.t 6), none⟩,
   ⟨some 14, .mvn 28 [.int .i64, .int .i64, .int .i64, .int .i64, .int .i64, .int .i64, .int .i64, .bool], none⟩,
   ⟨some 15, .alloc 3 [(.int .i64 0)], none⟩,
   ⟨some 16, .alloc 74 [.nsl], none⟩,
   ⟨some 17, .mv (.c (.int .i64 0)), none⟩])
 (.seq (.reg [
   ⟨some 20, .ld 7 true (.t 7), none⟩,
   ⟨some 21, .ld 5 true (.t 8), none⟩,
   ⟨some 22, .mv (.t 3), none⟩,
   ⟨some 23, .mv (.t 4), none⟩,
   ⟨some 24, .mv (.t 5), none⟩,
   ⟨some 25, .bld [(.int .i64 0), (.int .i64 0), (.int .i64 0), (.int .i64 0), (.int .i64 0), .nsl, .nsl, (.int .i64 0), (.int .i64 0), (.int .i64 0), (.int .i64 0), (.int .i64 0), .nsl, (.int .i64 0), (.int .i64 0)] [(0, 7, (.t 20)), (7, 5, (.t 21)), (12, 1, (.t 22)), (13, 1, (.t 23)), (14, 1, (.t 24))], none⟩,
   ⟨some 18, .alloc 127 [(.int .i64 0), (.int .i64 0), (.int .i64 0), (.int .i64 0), (.int .i64 0), .nsl, .nsl, (.int .i64 0), (.int .i64 0), (.int .i64 0), (.int .i64 0), (.int .i64 0), .nsl, (.int .i64 0), (.int .i64 0)], none⟩,
   ⟨none, .st 15 (.t 18) (.t 25), none⟩])
 (.seq (.seq (.reg [
   ⟨some 26, .ld 15 true (.t 18), none⟩,
   ⟨some 27, .mv (.t 2), none⟩,
   ⟨some 28, .call (.f 65) [(.t 26), (.t 27)], none⟩,
   ⟨some 29, .not (.t 28), none⟩,
   ⟨some 30, .mv (.t 29), none⟩,
   ⟨some 31, .ld 1 false (.t 13), some (30, false)⟩,
   ⟨some 32, .call (.f 50) [(.t 31), (.c (.int .i64 0)), (.c (.int .i64 6000))], some (30, false)⟩,
   ⟨some 33, .not (.t 32), some (30, false)⟩,
   ⟨some 34, .pick (.t 30) (.c (.bool true)) (.t 33), none⟩])
 (.cond (.t 34) (.seq (.reg [
    ⟨some 14, .mvn 28 [.int .i64, .int .i64, .int .i64, .int .i64, .int .i64, .int .i64, .int .i64, .bool], none⟩,
    ⟨none, .st 1 (.t 15) (.c (.int .i64 0)), none⟩,
    ⟨none, .st 1 (.t 16) (.c .nsl), none⟩,
    ⟨some 17, .mv (.c (.int .i64 2)), none⟩])
  .ret)
 .skip))
 (.seq (.reg [
   ⟨some 35, .mv (.t 2), none⟩,
   ⟨some 36, .call (.f 59) [(.t 35)], none⟩,
   ⟨some 19, .alloc 117 [.nsl], none⟩,
   ⟨none, .st 1 (.t 19) (.t 36), none⟩])
 (.seq (.reg [
   ⟨some 37, .mkf 69 [] [(.t 18), (.t 19), (.t 13), (.t 15), (.t 16)], none⟩,
   ⟨some 38, .call (.f 51) [(.t 37)], none⟩,
   ⟨some 17, .mv (.t 38), none⟩])
 (.seq (.seq (.reg [
   ⟨some 39, .mv (.t 17), none⟩,
   ⟨some 40, .bin .neq (.t 39) (.c (.int .i64 0)), none⟩])
 (.cond (.t 40) (.seq (.reg [
    ⟨some 41, .mv (.t 17), none⟩,
    ⟨some 14, .mvn 28 [.int .i64, .int .i64, .int .i64, .int .i64, .int .i64, .int .i64, .int .i64, .bool], none⟩,
    ⟨none, .st 1 (.t 15) (.c (.int .i64 0)), none⟩,
    ⟨none, .st 1 (.t 16) (.c .nsl), none⟩,
    ⟨some 17, .mv (.t 41), none⟩])
  .ret)
 .skip))
 (.seq (.drw [
   (⟨some 42, .ld 1 false (.t 19), none⟩, []),
   (⟨some 43, .call (.f 68) [(.t 42)], none⟩, [0]),
   (⟨some 44, .ld 1 false (.t 15), none⟩, []),
   (⟨some 45, .ld 1 false (.t 16), none⟩, []),
   (⟨some 14, .mv (.t 43), none⟩, [1, 0]),
   (⟨none, .st 1 (.t 15) (.t 44), none⟩, [2, 4, 1, 0]),
   (⟨none, .st 1 (.t 16) (.t 45), none⟩, [3, 5, 2, 4, 1, 0]),
   (⟨some 17, .mv (.c (.int .i64 0)), none⟩, [6, 3, 5, 2, 4, 1, 0])])
 .ret))))))),
  [.tmp 14, .cell 15 1 false, .cell 16 1 false, .tmp 17]⟩
theorem c35 : chkFn Tryz.prog Tryz.f35 a35 = true := by kernel_rfl

/-- besom/besomref05.Hits -/
def a36 : AFn := ⟨2, (.seq (.reg [
   ⟨some 4, .mv (.c (.bool false)), none⟩])
 (.seq (.seq (.reg [
   ⟨some 6, .mv (.t 0), none⟩,
   ⟨some 7, .len (.t 6), none⟩,
   ⟨some 8, .mv (.t 1), none⟩,
   ⟨some 9, .len (.t 8), none⟩,
   ⟨some 10, .bin .neq (.t 7) (.t 9), none⟩])
 (.cond (.t 10) (.seq (.reg [
    ⟨some 4, .mv (.c (.bool false)), none⟩])
  .ret)
 .skip))
 (.seq (.seq (.reg [
   ⟨some 5, .mv (.c (.int .i64 0)), none⟩])
 (.blk 0 (.loop 0 (.seq (.seq (.reg [
    ⟨some 11, .mv (.t 5), none⟩,
    ⟨some 12, .mv (.t 0), none⟩,
    ⟨some 13, .len (.t 12), none⟩,
    ⟨some 14, .bin .lss (.t 11) (.t 13), none⟩])
  (.cond (.t 14) .skip
  (.exit 0)))
  (.seq (.blk 1 (.seq (.drw [
    (⟨some 17, .mv (.t 0), none⟩, []),
    (⟨some 18, .mv (.t 5), none⟩, []),
    (⟨some 19, .ia (.t 17) (.t 18) 3, none⟩, [0, 1]),
    (⟨some 20, .ld 3 true (.t 19), none⟩, [2, 0, 1]),
    (⟨some 21, .mv (.t 1), none⟩, []),
    (⟨some 22, .mv (.t 5), none⟩, []),
    (⟨some 23, .ia (.t 21) (.t 22) 3, none⟩, [4, 5]),
    (⟨some 24, .ld 3 true (.t 23), none⟩, [6, 4, 5]),
    (⟨some 25, .eqa true [.int .i64, .int .i64, .int .i64] (.t 20) (.t 24), none⟩, [3, 2, 0, 1, 7, 6, 4, 5])])
  (.cond (.t 25) (.seq (.reg [
     ⟨some 4, .mv (.c (.bool false)), none⟩])
   .ret)
  .skip)))
  (.reg [
    ⟨some 15, .mv (.t 5), none⟩,
    ⟨some 16, .bin .add (.t 15) (.c (.int .i64 1)), none⟩,
    ⟨some 5, .mv (.t 16), none⟩]))))))
 (.seq (.reg [
   ⟨some 4, .mv (.c (.bool true)), none⟩])
 .ret)))),
  [.tmp 4]⟩
theorem c36 : chkFn Tryz.prog Tryz.f36 a36 = true := by kernel_rfl

/-- (besom/besomlaw05.Deal).long -/
def a37 : AFn := ⟨2, (.seq (.reg [
   ⟨some 2, .box 87 (.t 0), none⟩,
   ⟨some 4, .mv (.c (.bool false)), none⟩])
 (.seq (.reg [
   ⟨some 5, .fa (.t 2) 0, none⟩,
   ⟨some 6, .ld 7 true (.t 5), none⟩,
   ⟨some 7, .call (.f 32) [(.t 6), (.c (.int .i64 200))], none⟩,
   ⟨some 8, .mv (.t 7), none⟩,
   ⟨some 9, .fa (.t 2) 12, some (8, false)⟩,
   ⟨some 10, .ld 1 false (.t 9), some (8, false)⟩,
   ⟨some 11, .len (.t 10), some (8, false)⟩,
   ⟨some 12, .bin .gtr (.t 11) (.c (.int .i64 66)), some (8, false)⟩,
   ⟨some 13, .pick (.t 8) (.c (.bool true)) (.t 12), none⟩,
   ⟨some 14, .mv (.t 13), none⟩,
   ⟨some 15, .mv (.t 1), some (14, false)⟩,
   ⟨some 16, .len (.t 15), some (14, false)⟩,
   ⟨some 17, .bin .gtr (.t 16) (.c (.int .i64 18)), some (14, false)⟩,
   ⟨some 18, .pick (.t 14) (.c (.bool true)) (.t 17), none⟩,
   ⟨some 4, .mv (.t 18), none⟩])
 .ret)),
  [.tmp 4]⟩
theorem c37 : chkFn Tryz.prog Tryz.f37 a37 = true := by kernel_rfl

/-- besom/besomref05.Tick -/
def a38 : AFn := ⟨3, (.seq (.reg [
   ⟨some 3, .box 91 (.t 0), none⟩,
   ⟨some 6, .mvn 28 [.int .i64, .int .i64, .int .i64, .int .i64, .int .i64, .int .i64, .int .i64, .bool], none⟩,
   ⟨some 7, .mvn 84 [.int .i64, .int .i64, .int .i64], none⟩,
   ⟨some 8, .mv (.c (.int .i64 0)), none⟩])
 (.seq (.reg [
   ⟨some 10, .ld 15 true (.t 3), none⟩,
   ⟨some 11, .mv (.t 1), none⟩,
   ⟨some 12, .call (.f 71) [(.t 10), (.t 11)], none⟩,
   ⟨some 9, .mv (.t 12), none⟩])
 (.seq (.seq (.reg [
   ⟨some 13, .mv (.t 9), none⟩,
   ⟨some 14, .not (.t 13), none⟩,
   ⟨some 15, .mv (.t 14), none⟩,
   ⟨some 16, .mv (.t 2), some (15, false)⟩,
   ⟨some 17, .call (.f 54) [(.t 16), (.c (.int .i64 0)), (.c (.int .i64 6000))], some (15, false)⟩,
   ⟨some 18, .not (.t 17), some (15, false)⟩,
   ⟨some 19, .pick (.t 15) (.c (.bool true)) (.t 18), none⟩])
 (.cond (.t 19) (.seq (.reg [
    ⟨some 6, .mvn 28 [.int .i64, .int .i64, .int .i64, .int .i64, .int .i64, .int .i64, .int .i64, .bool], none⟩,
    ⟨some 7, .mvn 84 [.int .i64, .int .i64, .int .i64], none⟩,
    ⟨some 8, .mv (.c (.int .i64 2)), none⟩])
  .ret)
 .skip))
 (.seq (.reg [
   ⟨some 20, .ld 15 true (.t 3), none⟩,
   ⟨some 21, .mv (.t 1), none⟩,
   ⟨some 22, .mv (.t 2), none⟩,
   ⟨some 23, .call (.f 72) [(.t 20), (.t 21), (.t 22)], none⟩,
   ⟨some 24, .ext (.t 23) 0, none⟩,
   ⟨some 25, .ext (.t 23) 1, none⟩,
   ⟨some 26, .ext (.t 23) 2, none⟩,
   ⟨some 6, .mv (.t 24), none⟩,
   ⟨some 7, .mv (.t 25), none⟩,
   ⟨some 8, .mv (.t 26), none⟩])
 .ret)))),
  [.tmp 6, .tmp 7, .tmp 8]⟩
theorem c38 : chkFn Tryz.prog Tryz.f38 a38 = true := by kernel_rfl

/-- (besom/besomlaw05.Deal).task -/
def a39 : AFn := ⟨1, (.seq (.reg [
   ⟨some 1, .box 87 (.t 0), none⟩,
   ⟨some 2, .alloc 91 [(.int .i64 0), (.int .i64 0), (.int .i64 0), (.int .i64 0), (.int .i64 0), .nsl, .nsl, (.int .i64 0), (.int .i64 0), (.int .i64 0), (.int .i64 0), (.int .i64 0), .nsl, (.int .i64 0), (.int .i64 0)], none⟩])
 (.seq (.reg [
   ⟨some 3, .fa (.t 1) 0, none⟩,
   ⟨some 4, .ld 7 true (.t 3), none⟩,
   ⟨some 5, .fa (.t 1) 7, none⟩,
   ⟨some 6, .ld 5 true (.t 5), none⟩,
   ⟨some 7, .fa (.t 1) 12, none⟩,
   ⟨some 8, .ld 1 false (.t 7), none⟩,
   ⟨some 9, .fa (.t 1) 13, none⟩,
   ⟨some 10, .ld 1 false (.t 9), none⟩,
   ⟨some 11, .fa (.t 1) 14, none⟩,
   ⟨some 12, .ld 1 false (.t 11), none⟩,
   ⟨some 13, .bld [(.int .i64 0), (.int .i64 0), (.int .i64 0), (.int .i64 0), (.int .i64 0), .nsl, .nsl, (.int .i64 0), (.int .i64 0), (.int .i64 0), (.int .i64 0), (.int .i64 0), .nsl, (.int .i64 0), (.int .i64 0)] [(0, 7, (.t 4)), (7, 5, (.t 6)), (12, 1, (.t 8)), (13, 1, (.t 10)), (14, 1, (.t 12))], none⟩,
   ⟨none, .st 15 (.t 2) (.t 13), none⟩])
 .ret)),
  [.cell 2 15 true]⟩
theorem c39 : chkFn Tryz.prog Tryz.f39 a39 = true := by kernel_rfl

/-- besom/besomref05.Shot -/
def a40 : AFn := ⟨3, (.seq (.reg [
   ⟨some 3, .box 91 (.t 0), none⟩,
   ⟨some 6, .mvn 28 [.int .i64, .int .i64, .int .i64, .int .i64, .int .i64, .int .i64, .int .i64, .bool], none⟩,
   ⟨some 7, .mv (.c (.int .i64 0)), none⟩,
   ⟨some 8, .mvn 84 [.int .i64, .int .i64, .int .i64], none⟩,
   ⟨some 9, .mv (.c (.int .i64 0)), none⟩])
 (.seq (.reg [
   ⟨some 18, .ld 15 true (.t 3), none⟩,
   ⟨some 19, .mv (.t 1), none⟩,
   ⟨some 20, .call (.f 71) [(.t 18), (.t 19)], none⟩,
   ⟨some 10, .mv (.t 20), none⟩])
 (.seq (.seq (.reg [
   ⟨some 21, .mv (.t 10), none⟩,
   ⟨some 22, .not (.t 21), none⟩,
   ⟨some 23, .mv (.t 22), none⟩,
   ⟨some 24, .mv (.t 2), some (23, false)⟩,
   ⟨some 25, .call (.f 54) [(.t 24), (.c (.int .i64 0)), (.c (.int .i64 6000))], some (23, false)⟩,
   ⟨some 26, .not (.t 25), some (23, false)⟩,
   ⟨some 27, .pick (.t 23) (.c (.bool true)) (.t 26), none⟩])
 (.cond (.t 27) (.seq (.reg [
    ⟨some 6, .mvn 28 [.int .i64, .int .i64, .int .i64, .int .i64, .int .i64, .int .i64, .int .i64, .bool], none⟩,
    ⟨some 7, .mv (.c (.int .i64 0)), none⟩,
    ⟨some 8, .mvn 84 [.int .i64, .int .i64, .int .i64], none⟩,
    ⟨some 9, .mv (.c (.int .i64 2)), none⟩])
  .ret)
 .skip))
 (.seq (.reg [
   ⟨some 28, .bsl 28 [.int .i64, .int .i64, .int .i64, .int .i64, .int .i64, .int .i64, .int .i64, .bool] 0 [] [], none⟩,
   ⟨some 29, .mv (.t 1), none⟩,
   ⟨some 30, .app 28 [.int .i64, .int .i64, .int .i64, .int .i64, .int .i64, .int .i64, .int .i64, .bool] 64 (.t 28) (.t 29), none⟩,
   ⟨some 11, .mv (.t 30), none⟩])
 (.seq (.reg [
   ⟨some 12, .mvn 84 [.int .i64, .int .i64, .int .i64], none⟩])
 (.seq (.reg [
   ⟨some 13, .mv (.c (.int .i64 0)), none⟩])
 (.seq (.blk 0 (.loop 0 (.seq (.seq (.reg [
    ⟨some 31, .mv (.t 13), none⟩,
    ⟨some 32, .mv (.t 2), none⟩,
    ⟨some 33, .bin .lss (.t 31) (.t 32), none⟩])
  (.cond (.t 33) .skip
  (.exit 0)))
  (.blk 1 (.seq (.reg [
    ⟨some 34, .mv (.t 11), none⟩,
    ⟨some 35, .call (.f 61) [(.t 34)], none⟩,
    ⟨some 14, .mv (.t 35), none⟩])
  (.seq (.seq (.reg [
    ⟨some 36, .mv (.t 14), none⟩])
  (.cond (.t 36) (.exit 0)
  .skip))
  (.seq (.reg [
    ⟨some 38, .ld 15 true (.t 3), none⟩,
    ⟨some 39, .mv (.t 11), none⟩,
    ⟨some 40, .mv (.t 13), none⟩,
    ⟨some 41, .call (.f 72) [(.t 38), (.t 39), (.t 40)], none⟩,
    ⟨some 37, .mv (.t 41), none⟩,
    ⟨some 42, .ext (.t 37) 0, none⟩,
    ⟨some 43, .ext (.t 37) 1, none⟩,
    ⟨some 44, .ext (.t 37) 2, none⟩,
    ⟨some 15, .mv (.t 42), none⟩,
    ⟨some 16, .mv (.t 43), none⟩,
    ⟨some 17, .mv (.t 44), none⟩])
  (.seq (.seq (.reg [
    ⟨some 45, .mv (.t 17), none⟩,
    ⟨some 46, .bin .neq (.t 45) (.c (.int .i64 0)), none⟩])
  (.cond (.t 46) (.seq (.reg [
     ⟨some 47, .mv (.t 17), none⟩,
     ⟨some 6, .mvn 28 [.int .i64, .int .i64, .int .i64, .int .i64, .int .i64, .int .i64, .int .i64, .bool], none⟩,
     ⟨some 7, .mv (.c (.int .i64 0)), none⟩,
     ⟨some 8, .mvn 84 [.int .i64, .int .i64, .int .i64], none⟩,
     ⟨some 9, .mv (.t 47), none⟩])
   .ret)
  .skip))
  (.seq (.reg [
    ⟨some 48, .mv (.t 15), none⟩,
    ⟨some 11, .mv (.t 48), none⟩])
  (.seq (.reg [
    ⟨some 49, .mv (.t 12), none⟩,
    ⟨some 50, .mv (.t 16), none⟩,
    ⟨some 51, .app 84 [.int .i64, .int .i64, .int .i64] 24 (.t 49) (.t 50), none⟩,
    ⟨some 12, .mv (.t 51), none⟩])
  (.seq (.seq (.reg [
    ⟨some 52, .mv (.t 12), none⟩,
    ⟨some 53, .len (.t 52), none⟩,
    ⟨some 54, .bin .gtr (.t 53) (.c (.int .i64 4096)), none⟩])
  (.cond (.t 54) (.seq (.reg [
     ⟨some 6, .mvn 28 [.int .i64, .int .i64, .int .i64, .int .i64, .int .i64, .int .i64, .int .i64, .bool], none⟩,
     ⟨some 7, .mv (.c (.int .i64 0)), none⟩,
     ⟨some 8, .mvn 84 [.int .i64, .int .i64, .int .i64], none⟩,
     ⟨some 9, .mv (.c (.int .i64 3)), none⟩])
   .ret)
  .skip))
  (.reg [
    ⟨some 55, .mv (.t 13), none⟩,
    ⟨some 56, .bin .add (.t 55) (.c (.int .i64 1)), none⟩,
    ⟨some 13, .mv (.t 56), none⟩]))))))))))))
 (.seq (.reg [
   ⟨some 57, .mv (.t 11), none⟩,
   ⟨some 58, .mv (.t 13), none⟩,
   ⟨some 59, .mv (.t 12), none⟩,
   ⟨some 6, .mv (.t 57), none⟩,
   ⟨some 7, .mv (.t 58), none⟩,
   ⟨some 8, .mv (.t 59), none⟩,
   ⟨some 9, .mv (.c (.int .i64 0)), none⟩])
 .ret)))))))),
  [.tmp 6, .tmp 7, .tmp 8, .tmp 9]⟩
theorem c40 : chkFn Tryz.prog Tryz.f40 a40 = true := by kernel_rfl

/-- besom/besomref04.Rest -/
def a41 : AFn := ⟨1, (.seq (.reg [
   ⟨some 1, .box 26 (.t 0), none⟩,
   ⟨some 2, .mv (.c (.bool false)), none⟩])
 (.seq (.reg [
   ⟨some 3, .fa (.t 1) 2, none⟩,
   ⟨some 4, .fa (.t 3) 0, none⟩,
   ⟨some 5, .ld 1 false (.t 4), none⟩,
   ⟨some 6, .bin .eql (.t 5) (.c (.int .i64 0)), none⟩,
   ⟨some 7, .mv (.t 6), none⟩,
   ⟨some 8, .fa (.t 1) 2, some (7, true)⟩,
   ⟨some 9, .fa (.t 8) 1, some (7, true)⟩,
   ⟨some 10, .ld 1 false (.t 9), some (7, true)⟩,
   ⟨some 11, .bin .eql (.t 10) (.c (.int .i64 0)), some (7, true)⟩,
   ⟨some 12, .pick (.t 7) (.t 11) (.c (.bool false)), none⟩,
   ⟨some 2, .mv (.t 12), none⟩])
 .ret)),
  [.tmp 2]⟩
theorem c41 : chkFn Tryz.prog Tryz.f41 a41 = true := by kernel_rfl

/-- besom/besomlaw05.alone -/
def a42 : AFn := ⟨5, (.seq (.reg [
   ⟨some 5, .box 87 (.t 0), none⟩,
   ⟨some 9, .box 28 (.t 4), none⟩,
   ⟨some 10, .mv (.c (.bool false)), none⟩])
 (.seq (.reg [
   ⟨some 20, .fa (.t 5) 12, none⟩,
   ⟨some 21, .ld 1 false (.t 20), none⟩,
   ⟨some 11, .mv (.t 21), none⟩])
 (.seq (.seq (.reg [
   ⟨some 22, .mv (.t 2), none⟩,
   ⟨some 23, .fa (.t 5) 13, none⟩,
   ⟨some 24, .ld 1 false (.t 23), none⟩,
   ⟨some 25, .bin .neq (.t 22) (.t 24), none⟩])
 (.cond (.t 25) (.reg [
    ⟨some 11, .mvn 82 [.int .i64, .int .i64, .int .i64], none⟩])
 .skip))
 (.seq (.reg [
   ⟨some 26, .mv (.t 1), none⟩,
   ⟨some 27, .mv (.t 2), none⟩,
   ⟨some 28, .ia (.t 26) (.t 27) 8, none⟩,
   ⟨some 29, .ld 8 true (.t 28), none⟩,
   ⟨some 12, .alloc 28 [(.int .i64 0), (.int .i64 0), (.int .i64 0), (.int .i64 0), (.int .i64 0), (.int .i64 0), (.int .i64 0), (.bool false)], none⟩,
   ⟨none, .st 8 (.t 12) (.t 29), none⟩])
 (.seq (.seq (.reg [
   ⟨some 13, .mv (.c (.int .i64 0)), none⟩])
 (.blk 0 (.loop 0 (.seq (.seq (.reg [
    ⟨some 30, .mv (.t 13), none⟩,
    ⟨some 31, .mv (.t 3), none⟩,
    ⟨some 32, .bin .lss (.t 30) (.t 31), none⟩,
    ⟨some 33, .mv (.t 32), none⟩,
    ⟨some 34, .fa (.t 12) 7, some (33, true)⟩,
    ⟨some 35, .ld 1 false (.t 34), some (33, true)⟩,
    ⟨some 36, .not (.t 35), some (33, true)⟩,
    ⟨some 37, .pick (.t 33) (.t 36) (.c (.bool false)), none⟩,
    ⟨some 38, .mv (.t 37), none⟩,
    ⟨some 39, .fa (.t 12) 2, some (38, true)⟩,
    ⟨some 40, .ld 5 true (.t 39), some (38, true)⟩,
    ⟨some 41, .call (.f 41) [(.t 40)], some (38, true)⟩,
    ⟨some 42, .not (.t 41), some (38, true)⟩,
    ⟨some 43, .pick (.t 38) (.t 42) (.c (.bool false)), none⟩])
  (.cond (.t 43) .skip
  (.exit 0)))
  (.seq (.blk 1 (.seq (.reg [
    ⟨some 47, .mv (.t 11), none⟩,
    ⟨some 48, .mv (.t 13), none⟩,
    ⟨some 49, .call (.f 73) [(.t 47), (.t 48)], none⟩,
    ⟨some 46, .mv (.t 49), none⟩,
    ⟨some 50, .ext (.t 46) 0, none⟩,
    ⟨some 51, .ext (.t 46) 1, none⟩,
    ⟨some 14, .mv (.t 50), none⟩,
    ⟨some 15, .mv (.t 51), none⟩])
  (.seq (.reg [
    ⟨some 53, .fa (.t 5) 0, none⟩,
    ⟨some 54, .ld 7 true (.t 53), none⟩,
    ⟨some 55, .fa (.t 5) 7, none⟩,
    ⟨some 56, .ld 5 true (.t 55), none⟩,
    ⟨some 57, .fa (.t 12) 2, none⟩,
    ⟨some 58, .ld 5 true (.t 57), none⟩,
    ⟨some 59, .mv (.t 14), none⟩,
    ⟨some 60, .call (.f 74) [(.t 54), (.t 56), (.t 58), (.t 59)], none⟩,
    ⟨some 52, .mv (.t 60), none⟩,
    ⟨some 61, .ext (.t 52) 0, none⟩,
    ⟨some 62, .ext (.t 52) 1, none⟩,
    ⟨some 16, .alloc 26 [(.int .i64 0), (.int .i64 0), (.int .i64 0), (.int .i64 0), (.int .i64 0)], none⟩,
    ⟨none, .st 5 (.t 16) (.t 61), none⟩,
    ⟨some 17, .mv (.t 62), none⟩])
  (.seq (.seq (.reg [
    ⟨some 63, .mv (.t 15), none⟩,
    ⟨some 64, .bin .neq (.t 63) (.c (.int .i64 0)), none⟩,
    ⟨some 65, .mv (.t 64), none⟩,
    ⟨some 66, .mv (.t 17), some (65, false)⟩,
    ⟨some 67, .bin .neq (.t 66) (.c (.int .i64 0)), some (65, false)⟩,
    ⟨some 68, .pick (.t 65) (.c (.bool true)) (.t 67), none⟩])
  (.cond (.t 68) (.seq (.reg [
     ⟨some 10, .mv (.c (.bool false)), none⟩])
   .ret)
  .skip))
  (.seq (.reg [
    ⟨some 69, .ld 5 true (.t 16), none⟩,
    ⟨some 70, .fa (.t 12) 2, none⟩,
    ⟨none, .st 5 (.t 70) (.t 69), none⟩])
  (.seq (.reg [
    ⟨some 72, .ld 8 true (.t 12), none⟩,
    ⟨some 73, .call (.f 16) [(.t 72)], none⟩,
    ⟨some 71, .mv (.t 73), none⟩,
    ⟨some 74, .ext (.t 71) 0, none⟩,
    ⟨some 75, .ext (.t 71) 1, none⟩,
    ⟨some 18, .mv (.t 74), none⟩,
    ⟨some 19, .mv (.t 75), none⟩])
  (.seq (.seq (.reg [
    ⟨some 76, .mv (.t 19), none⟩,
    ⟨some 77, .bin .neq (.t 76) (.c (.int .i64 0)), none⟩])
  (.cond (.t 77) (.seq (.reg [
     ⟨some 10, .mv (.c (.bool false)), none⟩])
   .ret)
  .skip))
  (.seq (.reg [
    ⟨some 78, .mv (.t 18), none⟩])
  (.cond (.t 78) (.reg [
     ⟨some 79, .fa (.t 12) 2, none⟩,
     ⟨some 80, .fa (.t 79) 0, none⟩,
     ⟨some 81, .ld 2 true (.t 80), none⟩,
     ⟨some 82, .bld [(.int .i64 0), (.int .i64 0), (.int .i64 0), (.int .i64 0), (.int .i64 0)] [(0, 2, (.t 81))], none⟩,
     ⟨some 83, .fa (.t 12) 7, none⟩,
     ⟨none, .st 1 (.t 83) (.c (.bool true)), none⟩,
     ⟨some 84, .fa (.t 12) 2, none⟩,
     ⟨none, .st 5 (.t 84) (.t 82), none⟩])
  .skip)))))))))
  (.reg [
    ⟨some 44, .mv (.t 13), none⟩,
    ⟨some 45, .bin .add (.t 44) (.c (.int .i64 1)), none⟩,
    ⟨some 13, .mv (.t 45), none⟩]))))))
 (.seq (.reg [
   ⟨some 85, .ld 8 true (.t 12), none⟩,
   ⟨some 86, .ld 8 true (.t 9), none⟩,
   ⟨some 87, .eqa false [.int .i64, .int .i64, .int .i64, .int .i64, .int .i64, .int .i64, .int .i64, .bool] (.t 85) (.t 86), none⟩,
   ⟨some 10, .mv (.t 87), none⟩])
 .ret)))))),
  [.tmp 10]⟩
theorem c42 : chkFn Tryz.prog Tryz.f42 a42 = true := by kernel_rfl

/-- besom/besomlaw05.mirror -/
def a43 : AFn := ⟨1, (.seq (.reg [
   ⟨some 2, .mvn 28 [.int .i64, .int .i64, .int .i64, .int .i64, .int .i64, .int .i64, .int .i64, .bool], none⟩])
 (.seq (.reg [
   ⟨some 3, .mvn 28 [.int .i64, .int .i64, .int .i64, .int .i64, .int .i64, .int .i64, .int .i64, .bool], none⟩])
 (.seq (.seq (.reg [
   ⟨some 6, .mv (.t 0), none⟩,
   ⟨some 7, .len (.t 6), none⟩,
   ⟨some 8, .mv (.c (.int .i64 0)), none⟩])
 (.blk 0 (.loop 0 (.seq (.reg [
    ⟨some 9, .bin .lss (.t 8) (.t 7), none⟩])
  (.seq (.cond (.t 9) .skip
  (.exit 0))
  (.seq (.blk 1 (.seq (.reg [
    ⟨some 10, .ia (.t 6) (.t 8) 8, none⟩,
    ⟨some 11, .ld 8 true (.t 10), none⟩,
    ⟨some 5, .alloc 28 [(.int .i64 0), (.int .i64 0), (.int .i64 0), (.int .i64 0), (.int .i64 0), (.int .i64 0), (.int .i64 0), (.bool false)], none⟩,
    ⟨none, .st 8 (.t 5) (.t 11), none⟩])
  (.seq (.reg [
    ⟨some 12, .fa (.t 5) 2, none⟩,
    ⟨some 13, .fa (.t 12) 0, none⟩,
    ⟨some 14, .fa (.t 13) 0, none⟩,
    ⟨some 15, .ld 1 false (.t 14), none⟩,
    ⟨some 16, .neg (.t 15), none⟩,
    ⟨some 17, .fa (.t 5) 2, none⟩,
    ⟨some 18, .fa (.t 17) 2, none⟩,
    ⟨some 19, .fa (.t 18) 0, none⟩,
    ⟨some 20, .ld 1 false (.t 19), none⟩,
    ⟨some 21, .neg (.t 20), none⟩,
    ⟨some 22, .fa (.t 5) 2, none⟩,
    ⟨some 23, .fa (.t 22) 4, none⟩,
    ⟨some 24, .ld 1 false (.t 23), none⟩,
    ⟨some 25, .neg (.t 24), none⟩,
    ⟨some 26, .fa (.t 5) 2, none⟩,
    ⟨some 27, .fa (.t 26) 0, none⟩,
    ⟨some 28, .fa (.t 27) 0, none⟩,
    ⟨none, .st 1 (.t 28) (.t 16), none⟩,
    ⟨some 29, .fa (.t 5) 2, none⟩,
    ⟨some 30, .fa (.t 29) 2, none⟩,
    ⟨some 31, .fa (.t 30) 0, none⟩,
    ⟨none, .st 1 (.t 31) (.t 21), none⟩,
    ⟨some 32, .fa (.t 5) 2, none⟩,
    ⟨some 33, .fa (.t 32) 4, none⟩,
    ⟨none, .st 1 (.t 33) (.t 25), none⟩])
  (.reg [
    ⟨some 34, .mv (.t 3), none⟩,
    ⟨some 35, .ld 8 true (.t 5), none⟩,
    ⟨some 36, .bsl 28 [.int .i64, .int .i64, .int .i64, .int .i64, .int .i64, .int .i64, .int .i64, .bool] 1 [(.int .i64 0), (.int .i64 0), (.int .i64 0), (.int .i64 0), (.int .i64 0), (.int .i64 0), (.int .i64 0), (.bool false)] [(0, 8, (.t 35))], none⟩,
    ⟨some 37, .app 28 [.int .i64, .int .i64, .int .i64, .int .i64, .int .i64, .int .i64, .int .i64, .bool] 64 (.t 34) (.t 36), none⟩,
    ⟨some 3, .mv (.t 37), none⟩]))))
  (.reg [
    ⟨some 38, .bin .add (.t 8) (.c (.int .i64 1)), none⟩,
    ⟨some 8, .mv (.t 38), none⟩])))))))
 (.seq (.reg [
   ⟨some 39, .mv (.t 3), none⟩,
   ⟨some 2, .mv (.t 39), none⟩])
 .ret)))),
  [.tmp 2]⟩
theorem c43 : chkFn Tryz.prog Tryz.f43 a43 = true := by kernel_rfl

/-- (besom/contact.body).valid -/
def a44 : AFn := ⟨1, (.seq (.reg [
   ⟨some 1, .box 106 (.t 0), none⟩,
   ⟨some 2, .mv (.c (.bool false)), none⟩])
 (.seq (.reg [
   ⟨some 3, .fa (.t 1) 0, none⟩,
   ⟨some 4, .fa (.t 3) 0, none⟩,
   ⟨some 5, .ld 1 false (.t 4), none⟩,
   ⟨some 6, .call (.f 50) [(.t 5), (.c (.int .i64 0)), (.c (.int .i64 1))], none⟩,
   ⟨some 7, .mv (.t 6), none⟩,
   ⟨some 8, .fa (.t 1) 0, some (7, true)⟩,
   ⟨some 9, .fa (.t 8) 1, some (7, true)⟩,
   ⟨some 10, .ld 1 false (.t 9), some (7, true)⟩,
   ⟨some 11, .call (.f 50) [(.t 10), (.c (.int .i64 0)), (.c (.int .i64 7))], some (7, true)⟩,
   ⟨some 12, .pick (.t 7) (.t 11) (.c (.bool false)), none⟩,
   ⟨some 13, .mv (.t 12), none⟩,
   ⟨some 14, .fa (.t 1) 0, some (13, true)⟩,
   ⟨some 15, .fa (.t 14) 2, some (13, true)⟩,
   ⟨some 16, .ld 5 true (.t 15), some (13, true)⟩,
   ⟨some 17, .call (.f 75) [(.t 16)], some (13, true)⟩,
   ⟨some 18, .bin .eql (.t 17) (.c (.int .i64 0)), some (13, true)⟩,
   ⟨some 19, .pick (.t 13) (.t 18) (.c (.bool false)), none⟩,
   ⟨some 2, .mv (.t 19), none⟩])
 .ret)),
  [.tmp 2]⟩
theorem c44 : chkFn Tryz.prog Tryz.f44 a44 = true := by kernel_rfl

/-- (besom/contact.body).touches -/
def a45 : AFn := ⟨2, (.seq (.reg [
   ⟨some 2, .box 106 (.t 0), none⟩,
   ⟨some 3, .box 106 (.t 1), none⟩,
   ⟨some 4, .mv (.c (.bool false)), none⟩])
 (.seq (.reg [
   ⟨some 10, .fa (.t 3) 0, none⟩,
   ⟨some 11, .fa (.t 10) 2, none⟩,
   ⟨some 12, .fa (.t 11) 0, none⟩,
   ⟨some 13, .ld 2 true (.t 12), none⟩,
   ⟨some 14, .fa (.t 2) 0, none⟩,
   ⟨some 15, .fa (.t 14) 2, none⟩,
   ⟨some 16, .fa (.t 15) 0, none⟩,
   ⟨some 17, .ld 2 true (.t 16), none⟩,
   ⟨some 18, .call (.f 76) [(.t 13), (.t 17)], none⟩,
   ⟨some 9, .mv (.t 18), none⟩,
   ⟨some 19, .ext (.t 9) 0, none⟩,
   ⟨some 20, .ext (.t 9) 1, none⟩,
   ⟨some 5, .alloc 24 [(.int .i64 0), (.int .i64 0)], none⟩,
   ⟨none, .st 2 (.t 5) (.t 19), none⟩,
   ⟨some 6, .mv (.t 20), none⟩])
 (.seq (.reg [
   ⟨some 22, .ld 2 true (.t 5), none⟩,
   ⟨some 23, .call (.f 77) [(.t 22), (.c (.int .i64 19005440))], none⟩,
   ⟨some 21, .mv (.t 23), none⟩,
   ⟨some 24, .ext (.t 21) 0, none⟩,
   ⟨some 25, .ext (.t 21) 1, none⟩,
   ⟨some 7, .mv (.t 24), none⟩,
   ⟨some 8, .mv (.t 25), none⟩])
 (.seq (.reg [
   ⟨some 26, .fa (.t 2) 0, none⟩,
   ⟨some 27, .fa (.t 26) 7, none⟩,
   ⟨some 28, .ld 1 false (.t 27), none⟩,
   ⟨some 29, .not (.t 28), none⟩,
   ⟨some 30, .mv (.t 29), none⟩,
   ⟨some 31, .fa (.t 3) 0, some (30, true)⟩,
   ⟨some 32, .fa (.t 31) 7, some (30, true)⟩,
   ⟨some 33, .ld 1 false (.t 32), some (30, true)⟩,
   ⟨some 34, .not (.t 33), some (30, true)⟩,
   ⟨some 35, .pick (.t 30) (.t 34) (.c (.bool false)), none⟩,
   ⟨some 36, .mv (.t 35), none⟩,
   ⟨some 37, .mv (.t 7), some (36, true)⟩,
   ⟨some 38, .pick (.t 36) (.t 37) (.c (.bool false)), none⟩,
   ⟨some 39, .mv (.t 38), none⟩,
   ⟨some 40, .ld 2 true (.t 5), some (39, true)⟩,
   ⟨some 41, .bld [(.int .i64 0), (.int .i64 0)] [], some (39, true)⟩,
   ⟨some 42, .eqa true [.int .i64, .int .i64] (.t 40) (.t 41), some (39, true)⟩,
   ⟨some 43, .pick (.t 39) (.t 42) (.c (.bool false)), none⟩,
   ⟨some 4, .mv (.t 43), none⟩])
 .ret)))),
  [.tmp 4]⟩
theorem c45 : chkFn Tryz.prog Tryz.f45 a45 = true := by kernel_rfl

/-- besom/besomref05.Body -/
def a46 : AFn := ⟨1, (.seq (.reg [
   ⟨some 1, .box 28 (.t 0), none⟩,
   ⟨some 2, .mv (.c (.bool false)), none⟩])
 (.seq (.reg [
   ⟨some 3, .fa (.t 1) 0, none⟩,
   ⟨some 4, .ld 1 false (.t 3), none⟩,
   ⟨some 5, .call (.f 54) [(.t 4), (.c (.int .i64 0)), (.c (.int .i64 1))], none⟩,
   ⟨some 6, .mv (.t 5), none⟩,
   ⟨some 7, .fa (.t 1) 1, some (6, true)⟩,
   ⟨some 8, .ld 1 false (.t 7), some (6, true)⟩,
   ⟨some 9, .call (.f 54) [(.t 8), (.c (.int .i64 0)), (.c (.int .i64 7))], some (6, true)⟩,
   ⟨some 10, .pick (.t 6) (.t 9) (.c (.bool false)), none⟩,
   ⟨some 11, .mv (.t 10), none⟩,
   ⟨some 12, .fa (.t 1) 2, some (11, true)⟩,
   ⟨some 13, .ld 5 true (.t 12), some (11, true)⟩,
   ⟨some 14, .call (.f 78) [(.t 13)], some (11, true)⟩,
   ⟨some 15, .pick (.t 11) (.t 14) (.c (.bool false)), none⟩,
   ⟨some 2, .mv (.t 15), none⟩])
 .ret)),
  [.tmp 2]⟩
theorem c46 : chkFn Tryz.prog Tryz.f46 a46 = true := by kernel_rfl

/-- besom/besomref05.touch -/
def a47 : AFn := ⟨2, (.seq (.reg [
   ⟨some 2, .box 28 (.t 0), none⟩,
   ⟨some 3, .box 28 (.t 1), none⟩,
   ⟨some 4, .mv (.c (.bool false)), none⟩])
 (.seq (.reg [
   ⟨some 8, .fa (.t 3) 2, none⟩,
   ⟨some 9, .fa (.t 8) 0, none⟩,
   ⟨some 10, .fa (.t 9) 0, none⟩,
   ⟨some 11, .ld 1 false (.t 10), none⟩,
   ⟨some 12, .fa (.t 2) 2, none⟩,
   ⟨some 13, .fa (.t 12) 0, none⟩,
   ⟨some 14, .fa (.t 13) 0, none⟩,
   ⟨some 15, .ld 1 false (.t 14), none⟩,
   ⟨some 16, .bin .sub (.t 11) (.t 15), none⟩,
   ⟨some 17, .fa (.t 3) 2, none⟩,
   ⟨some 18, .fa (.t 17) 0, none⟩,
   ⟨some 19, .fa (.t 18) 1, none⟩,
   ⟨some 20, .ld 1 false (.t 19), none⟩,
   ⟨some 21, .fa (.t 2) 2, none⟩,
   ⟨some 22, .fa (.t 21) 0, none⟩,
   ⟨some 23, .fa (.t 22) 1, none⟩,
   ⟨some 24, .ld 1 false (.t 23), none⟩,
   ⟨some 25, .bin .sub (.t 20) (.t 24), none⟩,
   ⟨some 26, .bld [(.int .i64 0), (.int .i64 0)] [(0, 1, (.t 16)), (1, 1, (.t 25))], none⟩,
   ⟨some 5, .alloc 24 [(.int .i64 0), (.int .i64 0)], none⟩,
   ⟨none, .st 2 (.t 5) (.t 26), none⟩])
 (.seq (.reg [
   ⟨some 28, .ld 2 true (.t 5), none⟩,
   ⟨some 29, .call (.f 79) [(.t 28), (.c (.int .i64 19005440))], none⟩,
   ⟨some 27, .mv (.t 29), none⟩,
   ⟨some 30, .ext (.t 27) 0, none⟩,
   ⟨some 31, .ext (.t 27) 1, none⟩,
   ⟨some 6, .mv (.t 30), none⟩,
   ⟨some 7, .mv (.t 31), none⟩])
 (.seq (.reg [
   ⟨some 32, .fa (.t 2) 7, none⟩,
   ⟨some 33, .ld 1 false (.t 32), none⟩,
   ⟨some 34, .not (.t 33), none⟩,
   ⟨some 35, .mv (.t 34), none⟩,
   ⟨some 36, .fa (.t 3) 7, some (35, true)⟩,
   ⟨some 37, .ld 1 false (.t 36), some (35, true)⟩,
   ⟨some 38, .not (.t 37), some (35, true)⟩,
   ⟨some 39, .pick (.t 35) (.t 38) (.c (.bool false)), none⟩,
   ⟨some 40, .mv (.t 39), none⟩,
   ⟨some 41, .mv (.t 6), some (40, true)⟩,
   ⟨some 42, .pick (.t 40) (.t 41) (.c (.bool false)), none⟩,
   ⟨some 43, .mv (.t 42), none⟩,
   ⟨some 44, .fa (.t 5) 0, some (43, true)⟩,
   ⟨some 45, .ld 1 false (.t 44), some (43, true)⟩,
   ⟨some 46, .bin .neq (.t 45) (.c (.int .i64 0)), some (43, true)⟩,
   ⟨some 47, .mv (.t 46), some (43, true)⟩,
   ⟨some 48, .fa (.t 5) 1, some (47, false)⟩,
   ⟨some 49, .ld 1 false (.t 48), some (47, false)⟩,
   ⟨some 50, .bin .neq (.t 49) (.c (.int .i64 0)), some (47, false)⟩,
   ⟨some 51, .pick (.t 47) (.c (.bool true)) (.t 50), some (43, true)⟩,
   ⟨some 52, .pick (.t 43) (.t 51) (.c (.bool false)), none⟩,
   ⟨some 4, .mv (.t 52), none⟩])
 .ret)))),
  [.tmp 4]⟩
theorem c47 : chkFn Tryz.prog Tryz.f47 a47 = true := by kernel_rfl

/-- (besom/contact.body).gone -/
def a48 : AFn := ⟨1, (.seq (.reg [
   ⟨some 1, .box 106 (.t 0), none⟩,
   ⟨some 2, .mv (.c (.bool false)), none⟩])
 (.seq (.reg [
   ⟨some 3, .fa (.t 1) 0, none⟩,
   ⟨some 4, .fa (.t 3) 2, none⟩,
   ⟨some 5, .fa (.t 4) 0, none⟩,
   ⟨some 6, .fa (.t 5) 0, none⟩,
   ⟨some 7, .ld 1 false (.t 6), none⟩,
   ⟨some 8, .fa (.t 1) 0, none⟩,
   ⟨some 9, .fa (.t 8) 2, none⟩,
   ⟨some 10, .fa (.t 9) 0, none⟩,
   ⟨some 11, .fa (.t 10) 0, none⟩,
   ⟨some 12, .ld 1 false (.t 11), none⟩,
   ⟨some 13, .neg (.t 12), none⟩,
   ⟨some 14, .mx false (.t 7) (.t 13), none⟩,
   ⟨some 15, .bin .geq (.t 14) (.c (.int .i64 146145280)), none⟩,
   ⟨some 16, .mv (.t 15), none⟩,
   ⟨some 17, .fa (.t 1) 0, some (16, false)⟩,
   ⟨some 18, .fa (.t 17) 2, some (16, false)⟩,
   ⟨some 19, .fa (.t 18) 0, some (16, false)⟩,
   ⟨some 20, .fa (.t 19) 1, some (16, false)⟩,
   ⟨some 21, .ld 1 false (.t 20), some (16, false)⟩,
   ⟨some 22, .bin .gtr (.t 21) (.c (.int .i64 129368064)), some (16, false)⟩,
   ⟨some 23, .pick (.t 16) (.c (.bool true)) (.t 22), none⟩,
   ⟨some 24, .mv (.t 23), none⟩,
   ⟨some 25, .fa (.t 1) 0, some (24, false)⟩,
   ⟨some 26, .fa (.t 25) 2, some (24, false)⟩,
   ⟨some 27, .fa (.t 26) 0, some (24, false)⟩,
   ⟨some 28, .fa (.t 27) 1, some (24, false)⟩,
   ⟨some 29, .ld 1 false (.t 28), some (24, false)⟩,
   ⟨some 30, .bin .lss (.t 29) (.c (.int .i64 (-1977417728))), some (24, false)⟩,
   ⟨some 31, .pick (.t 24) (.c (.bool true)) (.t 30), none⟩,
   ⟨some 2, .mv (.t 31), none⟩])
 .ret)),
  [.tmp 2]⟩
theorem c48 : chkFn Tryz.prog Tryz.f48 a48 = true := by kernel_rfl

/-- besom/besomref05.gone -/
def a49 : AFn := ⟨1, (.seq (.reg [
   ⟨some 1, .box 28 (.t 0), none⟩,
   ⟨some 2, .mv (.c (.bool false)), none⟩])
 (.seq (.reg [
   ⟨some 3, .mv (.c (.int .i64 146145280)), none⟩])
 (.seq (.reg [
   ⟨some 4, .fa (.t 1) 2, none⟩,
   ⟨some 5, .fa (.t 4) 0, none⟩,
   ⟨some 6, .fa (.t 5) 0, none⟩,
   ⟨some 7, .ld 1 false (.t 6), none⟩,
   ⟨some 8, .mv (.t 3), none⟩,
   ⟨some 9, .bin .geq (.t 7) (.t 8), none⟩,
   ⟨some 10, .mv (.t 9), none⟩,
   ⟨some 11, .fa (.t 1) 2, some (10, false)⟩,
   ⟨some 12, .fa (.t 11) 0, some (10, false)⟩,
   ⟨some 13, .fa (.t 12) 0, some (10, false)⟩,
   ⟨some 14, .ld 1 false (.t 13), some (10, false)⟩,
   ⟨some 15, .mv (.t 3), some (10, false)⟩,
   ⟨some 16, .neg (.t 15), some (10, false)⟩,
   ⟨some 17, .bin .leq (.t 14) (.t 16), some (10, false)⟩,
   ⟨some 18, .pick (.t 10) (.c (.bool true)) (.t 17), none⟩,
   ⟨some 19, .mv (.t 18), none⟩,
   ⟨some 20, .fa (.t 1) 2, some (19, false)⟩,
   ⟨some 21, .fa (.t 20) 0, some (19, false)⟩,
   ⟨some 22, .fa (.t 21) 1, some (19, false)⟩,
   ⟨some 23, .ld 1 false (.t 22), some (19, false)⟩,
   ⟨some 24, .bin .gtr (.t 23) (.c (.int .i64 129368064)), some (19, false)⟩,
   ⟨some 25, .pick (.t 19) (.c (.bool true)) (.t 24), none⟩,
   ⟨some 26, .mv (.t 25), none⟩,
   ⟨some 27, .fa (.t 1) 2, some (26, false)⟩,
   ⟨some 28, .fa (.t 27) 0, some (26, false)⟩,
   ⟨some 29, .fa (.t 28) 1, some (26, false)⟩,
   ⟨some 30, .ld 1 false (.t 29), some (26, false)⟩,
   ⟨some 31, .bin .lss (.t 30) (.c (.int .i64 (-1977417728))), some (26, false)⟩,
   ⟨some 32, .pick (.t 26) (.c (.bool true)) (.t 31), none⟩,
   ⟨some 2, .mv (.t 32), none⟩])
 .ret))),
  [.tmp 2]⟩
theorem c49 : chkFn Tryz.prog Tryz.f49 a49 = true := by kernel_rfl

/-- besom/contact.within -/
def a50 : AFn := ⟨3, (.seq (.reg [
   ⟨some 6, .mv (.c (.bool false)), none⟩])
 (.seq (.reg [
   ⟨some 7, .mv (.t 1), none⟩,
   ⟨some 8, .mv (.t 0), none⟩,
   ⟨some 9, .bin .leq (.t 7) (.t 8), none⟩,
   ⟨some 10, .mv (.t 9), none⟩,
   ⟨some 11, .mv (.t 0), some (10, true)⟩,
   ⟨some 12, .mv (.t 2), some (10, true)⟩,
   ⟨some 13, .bin .leq (.t 11) (.t 12), some (10, true)⟩,
   ⟨some 14, .pick (.t 10) (.t 13) (.c (.bool false)), none⟩,
   ⟨some 6, .mv (.t 14), none⟩])
 .ret)),
  [.tmp 6]⟩
theorem c50 : chkFn Tryz.prog Tryz.f50 a50 = true := by kernel_rfl

/-- besom/contact.tried -/
def a51 : TFn := ⟨(.reg [
   ⟨some 2, .alloc 29 [(.int .i64 0)], none⟩]), 80, [2], 3,
 (.seq (.reg [
   ⟨some 4, .mv (.t 0), none⟩,
   ⟨some 5, .call (.t 4) [], none⟩])
 (.seq (.reg [
   ⟨none, .st 1 (.t 2) (.c (.int .i64 0)), none⟩])
 .ret)),
  [.cell 2 1 false], 4, 1,
 (.seq (.reg [
   ⟨some 6, .mv (.t 1), none⟩,
   ⟨some 7, .tas 134 [(.int .i64 0)] (.t 6), none⟩,
   ⟨some 5, .mv (.t 7), none⟩,
   ⟨some 8, .ext (.t 5) 0, none⟩,
   ⟨some 9, .ext (.t 5) 1, none⟩,
   ⟨some 2, .alloc 134 [(.int .i64 0)], none⟩,
   ⟨none, .st 1 (.t 2) (.t 8), none⟩,
   ⟨some 3, .mv (.t 9), none⟩])
 (.seq (.reg [
   ⟨some 10, .mv (.t 3), none⟩])
 (.cond (.t 10) (.reg [
    ⟨some 11, .fa (.t 2) 0, none⟩,
    ⟨some 12, .ld 1 false (.t 11), none⟩,
    ⟨none, .st 1 (.t 0) (.t 12), none⟩])
 (.seq (.reg [
    ⟨some 13, .mv (.t 1), none⟩,
    ⟨some 14, .ifn true (.t 13), none⟩])
  (.cond (.t 14) (.reg [
     ⟨some 15, .mv (.t 1), none⟩,
     ⟨none, .pan (.t 15), none⟩])
  .skip)))))⟩
theorem c51 : chkMain Tryz.prog Tryz.f51 a51 = true := by kernel_rfl
theorem d51 : chkDef Tryz.prog Tryz.f80 a51 = true := by kernel_rfl

/-- besom/contact.Meet$1 -/
def a52 : AFn := ⟨4, (.reg [
   ⟨some 4, .ld 8 true (.t 0), none⟩,
   ⟨some 5, .ld 8 true (.t 1), none⟩,
   ⟨some 6, .call (.f 45) [(.t 4), (.t 5)], none⟩,
   ⟨some 7, .mv (.t 6), none⟩,
   ⟨some 8, .ld 1 false (.t 2), some (7, true)⟩,
   ⟨some 9, .call (.f 53) [(.t 0), (.t 1), (.t 8)], some (7, true)⟩,
   ⟨some 10, .pick (.t 7) (.t 9) (.c (.bool false)), none⟩,
   ⟨none, .st 1 (.t 3) (.t 10), none⟩]),
  []⟩
theorem c52 : chkFn Tryz.prog Tryz.f52 a52 = true := by kernel_rfl

/-- besom/contact.meet -/
def a53 : AFn := ⟨3, (.seq (.reg [
   ⟨some 6, .mv (.c (.bool false)), none⟩])
 (.seq (.drw [
   (⟨some 11, .mv (.t 1), none⟩, []),
   (⟨some 12, .nck (.t 11), none⟩, [0]),
   (⟨some 13, .fa (.t 12) 0, none⟩, [1, 0]),
   (⟨some 14, .fa (.t 13) 2, none⟩, [2, 1, 0]),
   (⟨some 15, .fa (.t 14) 0, none⟩, [3, 2, 1, 0]),
   (⟨some 16, .ld 2 true (.t 15), none⟩, [4, 3, 2, 1, 0]),
   (⟨some 17, .mv (.t 0), none⟩, []),
   (⟨some 18, .nck (.t 17), none⟩, [6]),
   (⟨some 19, .fa (.t 18) 0, none⟩, [7, 6]),
   (⟨some 20, .fa (.t 19) 2, none⟩, [8, 7, 6]),
   (⟨some 21, .fa (.t 20) 0, none⟩, [9, 8, 7, 6]),
   (⟨some 22, .ld 2 true (.t 21), none⟩, [10, 9, 8, 7, 6]),
   (⟨some 23, .call (.f 76) [(.t 16), (.t 22)], none⟩, [5, 4, 3, 2, 1, 0, 11, 10, 9, 8, 7, 6]),
   (⟨some 24, .ext (.t 23) 0, none⟩, [12, 5, 4, 3, 2, 1, 0, 11, 10, 9, 8, 7, 6]),
   (⟨some 25, .ext (.t 23) 1, none⟩, [12, 5, 4, 3, 2, 1, 0, 11, 10, 9, 8, 7, 6]),
   (⟨some 26, .call (.f 81) [(.t 24), (.t 25)], none⟩, [13, 12, 5, 4, 3, 2, 1, 0, 11, 10, 9, 8, 7, 6, 14]),
   (⟨some 27, .call (.f 82) [(.t 26)], none⟩, [15, 13, 12, 5, 4, 3, 2, 1, 0, 11, 10, 9, 8, 7, 6, 14]),
   (⟨some 28, .ext (.t 27) 0, none⟩, [16, 15, 13, 12, 5, 4, 3, 2, 1, 0, 11, 10, 9, 8, 7, 6, 14]),
   (⟨some 29, .ext (.t 27) 1, none⟩, [16, 15, 13, 12, 5, 4, 3, 2, 1, 0, 11, 10, 9, 8, 7, 6, 14]),
   (⟨some 30, .call (.f 81) [(.t 28), (.t 29)], none⟩, [17, 16, 15, 13, 12, 5, 4, 3, 2, 1, 0, 11, 10, 9, 8, 7, 6, 14, 18]),
   (⟨some 7, .alloc 24 [(.int .i64 0), (.int .i64 0)], none⟩, []),
   (⟨none, .st 2 (.t 7) (.t 30), none⟩, [20, 19, 17, 16, 15, 13, 12, 5, 4, 3, 2, 1, 0, 11, 10, 9, 8, 7, 6, 14, 18])])
 (.seq (.drw [
   (⟨some 31, .mv (.t 0), none⟩, []),
   (⟨some 32, .nck (.t 31), none⟩, [0]),
   (⟨some 33, .fa (.t 32) 0, none⟩, [1, 0]),
   (⟨some 34, .fa (.t 33) 2, none⟩, [2, 1, 0]),
   (⟨some 35, .fa (.t 34) 2, none⟩, [3, 2, 1, 0]),
   (⟨some 36, .ld 2 true (.t 35), none⟩, [4, 3, 2, 1, 0]),
   (⟨some 37, .mv (.t 1), none⟩, []),
   (⟨some 38, .nck (.t 37), none⟩, [6]),
   (⟨some 39, .fa (.t 38) 0, none⟩, [7, 6]),
   (⟨some 40, .fa (.t 39) 2, none⟩, [8, 7, 6]),
   (⟨some 41, .fa (.t 40) 2, none⟩, [9, 8, 7, 6]),
   (⟨some 42, .ld 2 true (.t 41), none⟩, [10, 9, 8, 7, 6]),
   (⟨some 43, .call (.f 76) [(.t 36), (.t 42)], none⟩, [5, 4, 3, 2, 1, 0, 11, 10, 9, 8, 7, 6]),
   (⟨some 44, .ext (.t 43) 0, none⟩, [12, 5, 4, 3, 2, 1, 0, 11, 10, 9, 8, 7, 6]),
   (⟨some 45, .ext (.t 43) 1, none⟩, [12, 5, 4, 3, 2, 1, 0, 11, 10, 9, 8, 7, 6]),
   (⟨some 46, .call (.f 81) [(.t 44), (.t 45)], none⟩, [13, 12, 5, 4, 3, 2, 1, 0, 11, 10, 9, 8, 7, 6, 14]),
   (⟨some 8, .alloc 24 [(.int .i64 0), (.int .i64 0)], none⟩, []),
   (⟨none, .st 2 (.t 8) (.t 46), none⟩, [16, 15, 13, 12, 5, 4, 3, 2, 1, 0, 11, 10, 9, 8, 7, 6, 14])])
 (.seq (.reg [
   ⟨some 47, .ld 2 true (.t 8), none⟩,
   ⟨some 48, .ld 2 true (.t 7), none⟩,
   ⟨some 49, .call (.f 84) [(.t 47), (.t 48), (.c (.int .i64 1))], none⟩,
   ⟨some 50, .ext (.t 49) 0, none⟩,
   ⟨some 51, .ext (.t 49) 1, none⟩,
   ⟨some 52, .call (.f 83) [(.t 50), (.t 51)], none⟩,
   ⟨some 9, .mv (.t 52), none⟩])
 (.seq (.seq (.reg [
   ⟨some 53, .mv (.t 9), none⟩,
   ⟨some 54, .bin .leq (.t 53) (.c (.int .i64 0)), none⟩])
 (.cond (.t 54) (.seq (.reg [
    ⟨some 6, .mv (.c (.bool false)), none⟩])
  .ret)
 .skip))
 (.seq (.drw [
   (⟨some 55, .ld 2 true (.t 7), none⟩, []),
   (⟨some 56, .mv (.t 9), none⟩, []),
   (⟨some 57, .mv (.t 2), none⟩, []),
   (⟨some 58, .bin .add (.c (.int .i64 1000)) (.t 57), none⟩, [2]),
   (⟨some 59, .call (.f 86) [(.t 56), (.t 58), (.c (.int .i64 2000)), (.c (.int .i64 0))], none⟩, [1, 3, 2]),
   (⟨some 60, .ext (.t 59) 0, none⟩, [4, 1, 3, 2]),
   (⟨some 61, .ext (.t 59) 1, none⟩, [4, 1, 3, 2]),
   (⟨some 62, .call (.f 83) [(.t 60), (.t 61)], none⟩, [5, 4, 1, 3, 2, 6]),
   (⟨some 63, .call (.f 85) [(.t 55), (.t 62), (.c (.int .i64 0))], none⟩, [0, 7, 5, 4, 1, 3, 2, 6]),
   (⟨some 64, .ext (.t 63) 0, none⟩, [8, 0, 7, 5, 4, 1, 3, 2, 6]),
   (⟨some 65, .ext (.t 63) 1, none⟩, [8, 0, 7, 5, 4, 1, 3, 2, 6]),
   (⟨some 66, .call (.f 81) [(.t 64), (.t 65)], none⟩, [9, 8, 0, 7, 5, 4, 1, 3, 2, 6, 10]),
   (⟨some 10, .alloc 24 [(.int .i64 0), (.int .i64 0)], none⟩, []),
   (⟨none, .st 2 (.t 10) (.t 66), none⟩, [12, 11, 9, 8, 0, 7, 5, 4, 1, 3, 2, 6, 10])])
 (.seq (.drw [
   (⟨some 67, .mv (.t 0), none⟩, []),
   (⟨some 68, .mv (.t 0), none⟩, []),
   (⟨some 69, .nck (.t 68), none⟩, [1]),
   (⟨some 70, .fa (.t 69) 0, none⟩, [2, 1]),
   (⟨some 71, .fa (.t 70) 2, none⟩, [3, 2, 1]),
   (⟨some 72, .fa (.t 71) 2, none⟩, [4, 3, 2, 1]),
   (⟨some 73, .ld 2 true (.t 72), none⟩, [5, 4, 3, 2, 1]),
   (⟨some 74, .ld 2 true (.t 10), none⟩, []),
   (⟨some 75, .call (.f 76) [(.t 73), (.t 74)], none⟩, [6, 5, 4, 3, 2, 1, 7]),
   (⟨some 76, .ext (.t 75) 0, none⟩, [8, 6, 5, 4, 3, 2, 1, 7]),
   (⟨some 77, .ext (.t 75) 1, none⟩, [8, 6, 5, 4, 3, 2, 1, 7]),
   (⟨some 78, .call (.f 81) [(.t 76), (.t 77)], none⟩, [9, 8, 6, 5, 4, 3, 2, 1, 7, 10]),
   (⟨some 79, .nck (.t 67), none⟩, [0, 1, 2, 3, 4, 5, 6, 7, 8, 9, 10, 11]),
   (⟨some 80, .fa (.t 79) 0, none⟩, [12, 0, 1, 2, 3, 4, 5, 6, 7, 8, 9, 10, 11]),
   (⟨some 81, .fa (.t 80) 2, none⟩, [13, 12, 0, 1, 2, 3, 4, 5, 6, 7, 8, 9, 10, 11]),
   (⟨some 82, .fa (.t 81) 2, none⟩, [14, 13, 12, 0, 1, 2, 3, 4, 5, 6, 7, 8, 9, 10, 11]),
   (⟨none, .st 2 (.t 82) (.t 78), none⟩, [15, 14, 13, 12, 0, 1, 2, 3, 4, 5, 6, 7, 8, 9, 10, 11])])
 (.seq (.drw [
   (⟨some 83, .mv (.t 1), none⟩, []),
   (⟨some 84, .mv (.t 1), none⟩, []),
   (⟨some 85, .nck (.t 84), none⟩, [1]),
   (⟨some 86, .fa (.t 85) 0, none⟩, [2, 1]),
   (⟨some 87, .fa (.t 86) 2, none⟩, [3, 2, 1]),
   (⟨some 88, .fa (.t 87) 2, none⟩, [4, 3, 2, 1]),
   (⟨some 89, .ld 2 true (.t 88), none⟩, [5, 4, 3, 2, 1]),
   (⟨some 90, .ld 2 true (.t 10), none⟩, []),
   (⟨some 91, .call (.f 57) [(.t 89), (.t 90)], none⟩, [6, 5, 4, 3, 2, 1, 7]),
   (⟨some 92, .ext (.t 91) 0, none⟩, [8, 6, 5, 4, 3, 2, 1, 7]),
   (⟨some 93, .ext (.t 91) 1, none⟩, [8, 6, 5, 4, 3, 2, 1, 7]),
   (⟨some 94, .call (.f 81) [(.t 92), (.t 93)], none⟩, [9, 8, 6, 5, 4, 3, 2, 1, 7, 10]),
   (⟨some 95, .nck (.t 83), none⟩, [0, 1, 2, 3, 4, 5, 6, 7, 8, 9, 10, 11]),
   (⟨some 96, .fa (.t 95) 0, none⟩, [12, 0, 1, 2, 3, 4, 5, 6, 7, 8, 9, 10, 11]),
   (⟨some 97, .fa (.t 96) 2, none⟩, [13, 12, 0, 1, 2, 3, 4, 5, 6, 7, 8, 9, 10, 11]),
   (⟨some 98, .fa (.t 97) 2, none⟩, [14, 13, 12, 0, 1, 2, 3, 4, 5, 6, 7, 8, 9, 10, 11]),
   (⟨none, .st 2 (.t 98) (.t 94), none⟩, [15, 14, 13, 12, 0, 1, 2, 3, 4, 5, 6, 7, 8, 9, 10, 11])])
 (.seq (.seq (.reg [
   ⟨some 99, .mv (.t 0), none⟩,
   ⟨some 100, .nck (.t 99), none⟩,
   ⟨some 101, .ld 8 true (.t 100), none⟩,
   ⟨some 102, .call (.f 44) [(.t 101)], none⟩,
   ⟨some 103, .not (.t 102), none⟩,
   ⟨some 104, .mv (.t 103), none⟩,
   ⟨some 105, .mv (.t 1), some (104, false)⟩,
   ⟨some 106, .nck (.t 105), some (104, false)⟩,
   ⟨some 107, .ld 8 true (.t 106), some (104, false)⟩,
   ⟨some 108, .call (.f 44) [(.t 107)], some (104, false)⟩,
   ⟨some 109, .not (.t 108), some (104, false)⟩,
   ⟨some 110, .pick (.t 104) (.c (.bool true)) (.t 109), none⟩])
 (.cond (.t 110) (.reg [
    ⟨some 111, .bld [(.int .i64 0)] [(0, 1, (.c (.int .i64 4)))], none⟩,
    ⟨some 112, .mki 134 (.t 111), none⟩,
    ⟨none, .pan (.t 112), none⟩])
 .skip))
 (.seq (.reg [
   ⟨some 6, .mv (.c (.bool true)), none⟩])
 .ret)))))))))),
  [.tmp 6]⟩
theorem c53 : chkFn Tryz.prog Tryz.f53 a53 = true := by kernel_rfl

/-- besom/besomref05.in -/
def a54 : AFn := ⟨3, (.seq (.reg [
   ⟨some 6, .mv (.c (.bool false)), none⟩])
 (.seq (.reg [
   ⟨some 7, .mv (.t 0), none⟩,
   ⟨some 8, .mv (.t 1), none⟩,
   ⟨some 9, .mv (.t 2), none⟩,
   ⟨some 10, .call (.f 87) [(.t 7), (.t 8), (.t 9)], none⟩,
   ⟨some 6, .mv (.t 10), none⟩])
 .ret)),
  [.tmp 6]⟩
theorem c54 : chkFn Tryz.prog Tryz.f54 a54 = true := by kernel_rfl

/-- besom/besomref05.meet -/
def a55 : AFn := ⟨3, (.seq (.reg [
   ⟨some 3, .box 28 (.t 0), none⟩,
   ⟨some 4, .box 28 (.t 1), none⟩,
   ⟨some 6, .alloc 39 [(.int .i64 0), (.int .i64 0), (.int .i64 0), (.int .i64 0), (.int .i64 0), (.int .i64 0), (.int .i64 0), (.bool false), (.int .i64 0), (.int .i64 0), (.int .i64 0), (.int .i64 0), (.int .i64 0), (.int .i64 0), (.int .i64 0), (.bool false), (.bool false)], none⟩,
   ⟨some 7, .mv (.c (.int .i64 0)), none⟩])
 (.seq (.reg [
   ⟨some 20, .fa (.t 4) 2, none⟩,
   ⟨some 21, .fa (.t 20) 0, none⟩,
   ⟨some 22, .fa (.t 21) 0, none⟩,
   ⟨some 23, .ld 1 false (.t 22), none⟩,
   ⟨some 24, .fa (.t 3) 2, none⟩,
   ⟨some 25, .fa (.t 24) 0, none⟩,
   ⟨some 26, .fa (.t 25) 0, none⟩,
   ⟨some 27, .ld 1 false (.t 26), none⟩,
   ⟨some 28, .bin .sub (.t 23) (.t 27), none⟩,
   ⟨some 29, .fa (.t 4) 2, none⟩,
   ⟨some 30, .fa (.t 29) 0, none⟩,
   ⟨some 31, .fa (.t 30) 1, none⟩,
   ⟨some 32, .ld 1 false (.t 31), none⟩,
   ⟨some 33, .fa (.t 3) 2, none⟩,
   ⟨some 34, .fa (.t 33) 0, none⟩,
   ⟨some 35, .fa (.t 34) 1, none⟩,
   ⟨some 36, .ld 1 false (.t 35), none⟩,
   ⟨some 37, .bin .sub (.t 32) (.t 36), none⟩,
   ⟨some 38, .bld [(.int .i64 0), (.int .i64 0)] [(0, 1, (.t 28)), (1, 1, (.t 37))], none⟩,
   ⟨some 39, .call (.f 88) [(.t 38)], none⟩,
   ⟨some 19, .mv (.t 39), none⟩,
   ⟨some 40, .ext (.t 19) 0, none⟩,
   ⟨some 41, .ext (.t 19) 1, none⟩,
   ⟨some 8, .alloc 24 [(.int .i64 0), (.int .i64 0)], none⟩,
   ⟨none, .st 2 (.t 8) (.t 40), none⟩,
   ⟨some 9, .mv (.t 41), none⟩])
 (.seq (.reg [
   ⟨some 42, .fa (.t 3) 2, none⟩,
   ⟨some 43, .fa (.t 42) 2, none⟩,
   ⟨some 44, .fa (.t 43) 0, none⟩,
   ⟨some 45, .ld 1 false (.t 44), none⟩,
   ⟨some 46, .fa (.t 4) 2, none⟩,
   ⟨some 47, .fa (.t 46) 2, none⟩,
   ⟨some 48, .fa (.t 47) 0, none⟩,
   ⟨some 49, .ld 1 false (.t 48), none⟩,
   ⟨some 50, .bin .sub (.t 45) (.t 49), none⟩,
   ⟨some 51, .fa (.t 3) 2, none⟩,
   ⟨some 52, .fa (.t 51) 2, none⟩,
   ⟨some 53, .fa (.t 52) 1, none⟩,
   ⟨some 54, .ld 1 false (.t 53), none⟩,
   ⟨some 55, .fa (.t 4) 2, none⟩,
   ⟨some 56, .fa (.t 55) 2, none⟩,
   ⟨some 57, .fa (.t 56) 1, none⟩,
   ⟨some 58, .ld 1 false (.t 57), none⟩,
   ⟨some 59, .bin .sub (.t 54) (.t 58), none⟩,
   ⟨some 60, .bld [(.int .i64 0), (.int .i64 0)] [(0, 1, (.t 50)), (1, 1, (.t 59))], none⟩,
   ⟨some 10, .alloc 24 [(.int .i64 0), (.int .i64 0)], none⟩,
   ⟨none, .st 2 (.t 10) (.t 60), none⟩])
 (.seq (.reg [
   ⟨some 62, .ld 2 true (.t 10), none⟩,
   ⟨some 63, .ld 2 true (.t 8), none⟩,
   ⟨some 64, .call (.f 89) [(.t 62), (.t 63), (.c (.int .i64 1))], none⟩,
   ⟨some 61, .mv (.t 64), none⟩,
   ⟨some 65, .ext (.t 61) 0, none⟩,
   ⟨some 66, .ext (.t 61) 1, none⟩,
   ⟨some 11, .mv (.t 65), none⟩,
   ⟨some 12, .mv (.t 66), none⟩])
 (.seq (.seq (.reg [
   ⟨some 67, .mv (.t 11), none⟩,
   ⟨some 68, .bin .leq (.t 67) (.c (.int .i64 0)), none⟩])
 (.cond (.t 68) (.seq (.reg [
    ⟨some 69, .ld 8 true (.t 3), none⟩,
    ⟨some 70, .ld 8 true (.t 4), none⟩,
    ⟨some 71, .bld [(.int .i64 0), (.int .i64 0), (.int .i64 0), (.int .i64 0), (.int .i64 0), (.int .i64 0), (.int .i64 0), (.bool false), (.int .i64 0), (.int .i64 0), (.int .i64 0), (.int .i64 0), (.int .i64 0), (.int .i64 0), (.int .i64 0), (.bool false), (.bool false)] [(0, 8, (.t 69)), (8, 8, (.t 70))], none⟩,
    ⟨none, .st 17 (.t 6) (.t 71), none⟩,
    ⟨some 7, .mv (.c (.int .i64 0)), none⟩])
  .ret)
 .skip))
 (.seq (.reg [
   ⟨some 73, .mv (.t 11), none⟩,
   ⟨some 74, .mv (.t 2), none⟩,
   ⟨some 75, .bin .add (.c (.int .i64 1000)) (.t 74), none⟩,
   ⟨some 76, .call (.f 90) [(.t 73), (.t 75), (.c (.int .i64 2000)), (.c (.int .i64 0))], none⟩,
   ⟨some 72, .mv (.t 76), none⟩,
   ⟨some 77, .ext (.t 72) 0, none⟩,
   ⟨some 78, .ext (.t 72) 1, none⟩,
   ⟨some 13, .mv (.t 77), none⟩,
   ⟨some 14, .mv (.t 78), none⟩])
 (.seq (.reg [
   ⟨some 80, .ld 2 true (.t 8), none⟩,
   ⟨some 81, .mv (.t 13), none⟩,
   ⟨some 82, .call (.f 91) [(.t 80), (.t 81), (.c (.int .i64 0))], none⟩,
   ⟨some 79, .mv (.t 82), none⟩,
   ⟨some 83, .ext (.t 79) 0, none⟩,
   ⟨some 84, .ext (.t 79) 1, none⟩,
   ⟨some 15, .alloc 24 [(.int .i64 0), (.int .i64 0)], none⟩,
   ⟨none, .st 2 (.t 15) (.t 83), none⟩,
   ⟨some 16, .mv (.t 84), none⟩])
 (.seq (.reg [
   ⟨some 85, .fa (.t 3) 2, none⟩,
   ⟨some 86, .fa (.t 85) 2, none⟩,
   ⟨some 87, .fa (.t 86) 0, none⟩,
   ⟨some 88, .ld 1 false (.t 87), none⟩,
   ⟨some 89, .fa (.t 15) 0, none⟩,
   ⟨some 90, .ld 1 false (.t 89), none⟩,
   ⟨some 91, .bin .sub (.t 88) (.t 90), none⟩,
   ⟨some 92, .fa (.t 3) 2, none⟩,
   ⟨some 93, .fa (.t 92) 2, none⟩,
   ⟨some 94, .fa (.t 93) 1, none⟩,
   ⟨some 95, .ld 1 false (.t 94), none⟩,
   ⟨some 96, .fa (.t 15) 1, none⟩,
   ⟨some 97, .ld 1 false (.t 96), none⟩,
   ⟨some 98, .bin .sub (.t 95) (.t 97), none⟩,
   ⟨some 99, .bld [(.int .i64 0), (.int .i64 0)] [(0, 1, (.t 91)), (1, 1, (.t 98))], none⟩,
   ⟨some 100, .fa (.t 3) 2, none⟩,
   ⟨some 101, .fa (.t 100) 2, none⟩,
   ⟨none, .st 2 (.t 101) (.t 99), none⟩])
 (.seq (.reg [
   ⟨some 102, .fa (.t 4) 2, none⟩,
   ⟨some 103, .fa (.t 102) 2, none⟩,
   ⟨some 104, .fa (.t 103) 0, none⟩,
   ⟨some 105, .ld 1 false (.t 104), none⟩,
   ⟨some 106, .fa (.t 15) 0, none⟩,
   ⟨some 107, .ld 1 false (.t 106), none⟩,
   ⟨some 108, .bin .add (.t 105) (.t 107), none⟩,
   ⟨some 109, .fa (.t 4) 2, none⟩,
   ⟨some 110, .fa (.t 109) 2, none⟩,
   ⟨some 111, .fa (.t 110) 1, none⟩,
   ⟨some 112, .ld 1 false (.t 111), none⟩,
   ⟨some 113, .fa (.t 15) 1, none⟩,
   ⟨some 114, .ld 1 false (.t 113), none⟩,
   ⟨some 115, .bin .add (.t 112) (.t 114), none⟩,
   ⟨some 116, .bld [(.int .i64 0), (.int .i64 0)] [(0, 1, (.t 108)), (1, 1, (.t 115))], none⟩,
   ⟨some 117, .fa (.t 4) 2, none⟩,
   ⟨some 118, .fa (.t 117) 2, none⟩,
   ⟨none, .st 2 (.t 118) (.t 116), none⟩])
 (.seq (.reg [
   ⟨some 119, .ld 8 true (.t 3), none⟩,
   ⟨some 120, .call (.f 46) [(.t 119)], none⟩,
   ⟨some 17, .mv (.t 120), none⟩])
 (.seq (.reg [
   ⟨some 121, .ld 8 true (.t 4), none⟩,
   ⟨some 122, .call (.f 46) [(.t 121)], none⟩,
   ⟨some 18, .mv (.t 122), none⟩])
 (.seq (.seq (.reg [
   ⟨some 123, .mv (.t 17), none⟩,
   ⟨some 124, .not (.t 123), none⟩,
   ⟨some 125, .mv (.t 124), none⟩,
   ⟨some 126, .mv (.t 18), some (125, false)⟩,
   ⟨some 127, .not (.t 126), some (125, false)⟩,
   ⟨some 128, .pick (.t 125) (.c (.bool true)) (.t 127), none⟩])
 (.cond (.t 128) (.seq (.reg [
    ⟨some 129, .bld [(.int .i64 0), (.int .i64 0), (.int .i64 0), (.int .i64 0), (.int .i64 0), (.int .i64 0), (.int .i64 0), (.bool false), (.int .i64 0), (.int .i64 0), (.int .i64 0), (.int .i64 0), (.int .i64 0), (.int .i64 0), (.int .i64 0), (.bool false), (.bool false)] [], none⟩,
    ⟨none, .st 17 (.t 6) (.t 129), none⟩,
    ⟨some 7, .mv (.c (.int .i64 4)), none⟩])
  .ret)
 .skip))
 (.seq (.reg [
   ⟨some 130, .ld 8 true (.t 3), none⟩,
   ⟨some 131, .ld 8 true (.t 4), none⟩,
   ⟨some 132, .bld [(.int .i64 0), (.int .i64 0), (.int .i64 0), (.int .i64 0), (.int .i64 0), (.int .i64 0), (.int .i64 0), (.bool false), (.int .i64 0), (.int .i64 0), (.int .i64 0), (.int .i64 0), (.int .i64 0), (.int .i64 0), (.int .i64 0), (.bool false), (.bool false)] [(0, 8, (.t 130)), (8, 8, (.t 131)), (16, 1, (.c (.bool true)))], none⟩,
   ⟨none, .st 17 (.t 6) (.t 132), none⟩,
   ⟨some 7, .mv (.c (.int .i64 0)), none⟩])
 .ret))))))))))))),
  [.cell 6 17 true, .tmp 7]⟩
theorem c55 : chkFn Tryz.prog Tryz.f55 a55 = true := by kernel_rfl

/-- besom/besomlaw05.body -/
def a56 : AFn := ⟨3, (.seq (.reg [
   ⟨some 6, .alloc 28 [(.int .i64 0), (.int .i64 0), (.int .i64 0), (.int .i64 0), (.int .i64 0), (.int .i64 0), (.int .i64 0), (.bool false)], none⟩])
 (.seq (.reg [
   ⟨some 7, .mv (.t 0), none⟩,
   ⟨some 8, .mv (.t 1), none⟩,
   ⟨some 9, .bld [(.int .i64 0), (.int .i64 0)] [(1, 1, (.t 8))], none⟩,
   ⟨some 10, .mv (.t 2), none⟩,
   ⟨some 11, .bld [(.int .i64 0), (.int .i64 0)] [(1, 1, (.t 10))], none⟩,
   ⟨some 12, .bld [(.int .i64 0), (.int .i64 0), (.int .i64 0), (.int .i64 0), (.int .i64 0)] [(0, 2, (.t 9)), (2, 2, (.t 11))], none⟩,
   ⟨some 13, .bld [(.int .i64 0), (.int .i64 0), (.int .i64 0), (.int .i64 0), (.int .i64 0), (.int .i64 0), (.int .i64 0), (.bool false)] [(0, 1, (.t 7)), (2, 5, (.t 12))], none⟩,
   ⟨none, .st 8 (.t 6) (.t 13), none⟩])
 .ret)),
  [.cell 6 8 true]⟩
theorem c56 : chkFn Tryz.prog Tryz.f56 a56 = true := by kernel_rfl

/-- besom/fixed.Plus -/
def a57 : AFn := ⟨2, (.seq (.reg [
   ⟨some 2, .box 24 (.t 0), none⟩,
   ⟨some 3, .box 24 (.t 1), none⟩,
   ⟨some 4, .alloc 24 [(.int .i64 0), (.int .i64 0)], none⟩,
   ⟨some 5, .mv (.c (.int .i64 0)), none⟩])
 (.seq (.reg [
   ⟨some 6, .ld 2 true (.t 2), none⟩,
   ⟨some 7, .ld 2 true (.t 3), none⟩,
   ⟨some 8, .call (.f 92) [(.t 6), (.t 7), (.f 93)], none⟩,
   ⟨some 9, .ext (.t 8) 0, none⟩,
   ⟨some 10, .ext (.t 8) 1, none⟩,
   ⟨none, .st 2 (.t 4) (.t 9), none⟩,
   ⟨some 5, .mv (.t 10), none⟩])
 .ret)),
  [.cell 4 2 true, .tmp 5]⟩
theorem c57 : chkFn Tryz.prog Tryz.f57 a57 = true := by kernel_rfl

/-- besom/besomref05.Scene -/
def a58 : AFn := ⟨1, (.seq (.reg [
   ⟨some 2, .mv (.c (.bool false)), none⟩])
 (.seq (.seq (.reg [
   ⟨some 7, .mv (.t 0), none⟩,
   ⟨some 8, .len (.t 7), none⟩,
   ⟨some 9, .bin .gtr (.t 8) (.c (.int .i64 16)), none⟩])
 (.cond (.t 9) (.seq (.reg [
    ⟨some 2, .mv (.c (.bool false)), none⟩])
  .ret)
 .skip))
 (.seq (.seq (.reg [
   ⟨some 3, .mv (.c (.int .i64 0)), none⟩])
 (.blk 0 (.loop 0 (.seq (.seq (.reg [
    ⟨some 10, .mv (.t 3), none⟩,
    ⟨some 11, .mv (.t 0), none⟩,
    ⟨some 12, .len (.t 11), none⟩,
    ⟨some 13, .bin .lss (.t 10) (.t 12), none⟩])
  (.cond (.t 13) .skip
  (.exit 0)))
  (.seq (.blk 1 (.seq (.reg [
    ⟨some 16, .mv (.t 0), none⟩,
    ⟨some 17, .mv (.t 3), none⟩,
    ⟨some 18, .ia (.t 16) (.t 17) 8, none⟩,
    ⟨some 19, .ld 8 true (.t 18), none⟩,
    ⟨some 20, .call (.f 46) [(.t 19)], none⟩,
    ⟨some 4, .mv (.t 20), none⟩])
  (.seq (.reg [
    ⟨some 21, .mv (.t 0), none⟩,
    ⟨some 22, .mv (.t 3), none⟩,
    ⟨some 23, .ia (.t 21) (.t 22) 8, none⟩,
    ⟨some 24, .fa (.t 23) 2, none⟩,
    ⟨some 25, .ld 5 true (.t 24), none⟩,
    ⟨some 26, .call (.f 41) [(.t 25)], none⟩,
    ⟨some 5, .mv (.t 26), none⟩])
  (.seq (.seq (.reg [
    ⟨some 27, .mv (.t 4), none⟩,
    ⟨some 28, .not (.t 27), none⟩,
    ⟨some 29, .mv (.t 28), none⟩,
    ⟨some 30, .mv (.t 0), some (29, false)⟩,
    ⟨some 31, .mv (.t 3), some (29, false)⟩,
    ⟨some 32, .ia (.t 30) (.t 31) 8, some (29, false)⟩,
    ⟨some 33, .fa (.t 32) 7, some (29, false)⟩,
    ⟨some 34, .ld 1 false (.t 33), some (29, false)⟩,
    ⟨some 35, .mv (.t 34), some (29, false)⟩,
    ⟨some 36, .mv (.t 5), some (35, true)⟩,
    ⟨some 37, .not (.t 36), some (35, true)⟩,
    ⟨some 38, .mv (.t 37), some (35, true)⟩,
    ⟨some 39, .mv (.t 0), some (38, false)⟩,
    ⟨some 40, .mv (.t 3), some (38, false)⟩,
    ⟨some 41, .ia (.t 39) (.t 40) 8, some (38, false)⟩,
    ⟨some 42, .fa (.t 41) 2, some (38, false)⟩,
    ⟨some 43, .fa (.t 42) 4, some (38, false)⟩,
    ⟨some 44, .ld 1 false (.t 43), some (38, false)⟩,
    ⟨some 45, .bin .neq (.t 44) (.c (.int .i64 0)), some (38, false)⟩,
    ⟨some 46, .pick (.t 38) (.c (.bool true)) (.t 45), some (35, true)⟩,
    ⟨some 47, .pick (.t 35) (.t 46) (.c (.bool false)), some (29, false)⟩,
    ⟨some 48, .pick (.t 29) (.c (.bool true)) (.t 47), none⟩])
  (.cond (.t 48) (.seq (.reg [
     ⟨some 2, .mv (.c (.bool false)), none⟩])
   .ret)
  .skip))
  (.seq (.reg [
    ⟨some 6, .mv (.c (.int .i64 0)), none⟩])
  (.blk 2 (.loop 1 (.seq (.seq (.reg [
     ⟨some 49, .mv (.t 6), none⟩,
     ⟨some 50, .mv (.t 3), none⟩,
     ⟨some 51, .bin .lss (.t 49) (.t 50), none⟩])
   (.cond (.t 51) .skip
   (.exit 2)))
   (.seq (.blk 3 (.seq (.drw [
     (⟨some 54, .mv (.t 0), none⟩, []),
     (⟨some 55, .mv (.t 6), none⟩, []),
     (⟨some 56, .ia (.t 54) (.t 55) 8, none⟩, [0, 1]),
     (⟨some 57, .fa (.t 56) 0, none⟩, [2, 0, 1]),
     (⟨some 58, .ld 1 false (.t 57), none⟩, [3, 2, 0, 1]),
     (⟨some 59, .mv (.t 0), none⟩, []),
     (⟨some 60, .mv (.t 3), none⟩, []),
     (⟨some 61, .ia (.t 59) (.t 60) 8, none⟩, [5, 6]),
     (⟨some 62, .fa (.t 61) 0, none⟩, [7, 5, 6]),
     (⟨some 63, .ld 1 false (.t 62), none⟩, [8, 7, 5, 6]),
     (⟨some 64, .bin .eql (.t 58) (.t 63), none⟩, [4, 3, 2, 0, 1, 9, 8, 7, 5, 6]),
     (⟨some 65, .mv (.t 64), none⟩, [10, 4, 3, 2, 0, 1, 9, 8, 7, 5, 6]),
     (⟨some 66, .mv (.t 0), some (65, true)⟩, [11, 10, 4, 3, 2, 0, 1, 9, 8, 7, 5, 6]),
     (⟨some 67, .mv (.t 6), some (65, true)⟩, [11, 10, 4, 3, 2, 0, 1, 9, 8, 7, 5, 6]),
     (⟨some 68, .ia (.t 66) (.t 67) 8, some (65, true)⟩, [12, 11, 10, 4, 3, 2, 0, 1, 9, 8, 7, 5, 6, 13]),
     (⟨some 69, .fa (.t 68) 1, some (65, true)⟩, [14, 12, 11, 10, 4, 3, 2, 0, 1, 9, 8, 7, 5, 6, 13]),
     (⟨some 70, .ld 1 false (.t 69), some (65, true)⟩, [15, 14, 12, 11, 10, 4, 3, 2, 0, 1, 9, 8, 7, 5, 6, 13]),
     (⟨some 71, .mv (.t 0), some (65, true)⟩, [11, 10, 4, 3, 2, 0, 1, 9, 8, 7, 5, 6]),
     (⟨some 72, .mv (.t 3), some (65, true)⟩, [11, 10, 4, 3, 2, 0, 1, 9, 8, 7, 5, 6]),
     (⟨some 73, .ia (.t 71) (.t 72) 8, some (65, true)⟩, [17, 11, 10, 4, 3, 2, 0, 1, 9, 8, 7, 5, 6, 18]),
     (⟨some 74, .fa (.t 73) 1, some (65, true)⟩, [19, 17, 11, 10, 4, 3, 2, 0, 1, 9, 8, 7, 5, 6, 18]),
     (⟨some 75, .ld 1 false (.t 74), some (65, true)⟩, [20, 19, 17, 11, 10, 4, 3, 2, 0, 1, 9, 8, 7, 5, 6, 18]),
     (⟨some 76, .bin .eql (.t 70) (.t 75), some (65, true)⟩, [16, 15, 14, 12, 11, 10, 4, 3, 2, 0, 1, 9, 8, 7, 5, 6, 13, 21, 20, 19, 17, 18]),
     (⟨some 77, .pick (.t 65) (.t 76) (.c (.bool false)), none⟩, [11, 10, 4, 3, 2, 0, 1, 9, 8, 7, 5, 6, 22, 16, 15, 14, 12, 13, 21, 20, 19, 17, 18])])
   (.cond (.t 77) (.seq (.reg [
      ⟨some 2, .mv (.c (.bool false)), none⟩])
    .ret)
   .skip)))
   (.reg [
     ⟨some 52, .mv (.t 6), none⟩,
     ⟨some 53, .bin .add (.t 52) (.c (.int .i64 1)), none⟩,
     ⟨some 6, .mv (.t 53), none⟩]))))))))))
  (.reg [
    ⟨some 14, .mv (.t 3), none⟩,
    ⟨some 15, .bin .add (.t 14) (.c (.int .i64 1)), none⟩,
    ⟨some 3, .mv (.t 15), none⟩]))))))
 (.seq (.reg [
   ⟨some 2, .mv (.c (.bool true)), none⟩])
 .ret)))),
  [.tmp 2]⟩
theorem c58 : chkFn Tryz.prog Tryz.f58 a58 = true := by kernel_rfl

/-- besom/contact.of -/
def a59 : AFn := ⟨1, (.seq (.reg [
   ⟨some 2, .mvn 106 [.int .i64, .int .i64, .int .i64, .int .i64, .int .i64, .int .i64, .int .i64, .bool], none⟩])
 (.seq (.reg [
   ⟨some 3, .mvn 106 [.int .i64, .int .i64, .int .i64, .int .i64, .int .i64, .int .i64, .int .i64, .bool], none⟩])
 (.seq (.seq (.reg [
   ⟨some 6, .mv (.t 0), none⟩,
   ⟨some 7, .len (.t 6), none⟩,
   ⟨some 8, .mv (.c (.int .i64 0)), none⟩])
 (.blk 0 (.loop 0 (.seq (.reg [
    ⟨some 9, .bin .lss (.t 8) (.t 7), none⟩])
  (.seq (.cond (.t 9) .skip
  (.exit 0))
  (.seq (.blk 1 (.seq (.reg [
    ⟨some 10, .ia (.t 6) (.t 8) 8, none⟩,
    ⟨some 11, .ld 8 true (.t 10), none⟩,
    ⟨some 5, .alloc 28 [(.int .i64 0), (.int .i64 0), (.int .i64 0), (.int .i64 0), (.int .i64 0), (.int .i64 0), (.int .i64 0), (.bool false)], none⟩,
    ⟨none, .st 8 (.t 5) (.t 11), none⟩])
  (.reg [
    ⟨some 12, .mv (.t 3), none⟩,
    ⟨some 13, .ld 8 true (.t 5), none⟩,
    ⟨some 14, .bld [(.int .i64 0), (.int .i64 0), (.int .i64 0), (.int .i64 0), (.int .i64 0), (.int .i64 0), (.int .i64 0), (.bool false)] [(0, 8, (.t 13))], none⟩,
    ⟨some 15, .bsl 106 [.int .i64, .int .i64, .int .i64, .int .i64, .int .i64, .int .i64, .int .i64, .bool] 1 [(.int .i64 0), (.int .i64 0), (.int .i64 0), (.int .i64 0), (.int .i64 0), (.int .i64 0), (.int .i64 0), (.bool false)] [(0, 8, (.t 14))], none⟩,
    ⟨some 16, .app 106 [.int .i64, .int .i64, .int .i64, .int .i64, .int .i64, .int .i64, .int .i64, .bool] 64 (.t 12) (.t 15), none⟩,
    ⟨some 3, .mv (.t 16), none⟩])))
  (.reg [
    ⟨some 17, .bin .add (.t 8) (.c (.int .i64 1)), none⟩,
    ⟨some 8, .mv (.t 17), none⟩])))))))
 (.seq (.reg [
   ⟨some 18, .mv (.t 3), none⟩,
   ⟨some 2, .mv (.t 18), none⟩])
 .ret)))),
  [.tmp 2]⟩
theorem c59 : chkFn Tryz.prog Tryz.f59 a59 = true := by kernel_rfl

/-- (besom/contact.scene).still -/
def a60 : AFn := ⟨1, (.seq (.reg [
   ⟨some 2, .mv (.c (.bool false)), none⟩])
 (.seq (.reg [
   ⟨some 3, .mv (.t 0), none⟩,
   ⟨some 4, .call (.f 94) [(.t 3), (.f 95)], none⟩,
   ⟨some 5, .not (.t 4), none⟩,
   ⟨some 2, .mv (.t 5), none⟩])
 .ret)),
  [.tmp 2]⟩
theorem c60 : chkFn Tryz.prog Tryz.f60 a60 = true := by kernel_rfl

/-- besom/besomref05.still -/
def a61 : AFn := ⟨1, (.seq (.reg [
   ⟨some 2, .mv (.c (.bool false)), none⟩])
 (.seq (.seq (.reg [
   ⟨some 3, .mv (.c (.int .i64 0)), none⟩])
 (.blk 0 (.loop 0 (.seq (.seq (.reg [
    ⟨some 5, .mv (.t 3), none⟩,
    ⟨some 6, .mv (.t 0), none⟩,
    ⟨some 7, .len (.t 6), none⟩,
    ⟨some 8, .bin .lss (.t 5) (.t 7), none⟩])
  (.cond (.t 8) .skip
  (.exit 0)))
  (.seq (.blk 1 (.seq (.reg [
    ⟨some 11, .mv (.t 0), none⟩,
    ⟨some 12, .mv (.t 3), none⟩,
    ⟨some 13, .ia (.t 11) (.t 12) 8, none⟩,
    ⟨some 14, .fa (.t 13) 2, none⟩,
    ⟨some 15, .ld 5 true (.t 14), none⟩,
    ⟨some 16, .call (.f 41) [(.t 15)], none⟩,
    ⟨some 4, .mv (.t 16), none⟩])
  (.seq (.reg [
    ⟨some 17, .mv (.t 0), none⟩,
    ⟨some 18, .mv (.t 3), none⟩,
    ⟨some 19, .ia (.t 17) (.t 18) 8, none⟩,
    ⟨some 20, .fa (.t 19) 7, none⟩,
    ⟨some 21, .ld 1 false (.t 20), none⟩,
    ⟨some 22, .not (.t 21), none⟩,
    ⟨some 23, .mv (.t 22), none⟩,
    ⟨some 24, .mv (.t 4), some (23, true)⟩,
    ⟨some 25, .not (.t 24), some (23, true)⟩,
    ⟨some 26, .pick (.t 23) (.t 25) (.c (.bool false)), none⟩])
  (.cond (.t 26) (.seq (.reg [
     ⟨some 2, .mv (.c (.bool false)), none⟩])
   .ret)
  .skip))))
  (.reg [
    ⟨some 9, .mv (.t 3), none⟩,
    ⟨some 10, .bin .add (.t 9) (.c (.int .i64 1)), none⟩,
    ⟨some 3, .mv (.t 10), none⟩]))))))
 (.seq (.reg [
   ⟨some 2, .mv (.c (.bool true)), none⟩])
 .ret))),
  [.tmp 2]⟩
theorem c61 : chkFn Tryz.prog Tryz.f61 a61 = true := by kernel_rfl

/-- (besom/contact.body).rests -/
def a62 : AFn := ⟨1, (.seq (.reg [
   ⟨some 1, .box 106 (.t 0), none⟩,
   ⟨some 2, .mv (.c (.bool false)), none⟩])
 (.seq (.reg [
   ⟨some 3, .fa (.t 1) 0, none⟩,
   ⟨some 4, .fa (.t 3) 2, none⟩,
   ⟨some 5, .fa (.t 4) 2, none⟩,
   ⟨some 6, .ld 2 true (.t 5), none⟩,
   ⟨some 7, .bld [(.int .i64 0), (.int .i64 0)] [], none⟩,
   ⟨some 8, .eqa false [.int .i64, .int .i64] (.t 6) (.t 7), none⟩,
   ⟨some 2, .mv (.t 8), none⟩])
 .ret)),
  [.tmp 2]⟩
theorem c62 : chkFn Tryz.prog Tryz.f62 a62 = true := by kernel_rfl

/-- besom/fixed.Root -/
def a63 : AFn := ⟨2, (.seq (.reg [
   ⟨some 2, .box 22 (.t 0), none⟩,
   ⟨some 3, .box 3 (.t 1), none⟩,
   ⟨some 4, .mv (.c (.int .i64 0)), none⟩,
   ⟨some 5, .mv (.c (.int .i64 0)), none⟩])
 (.seq (.reg [
   ⟨some 6, .mkf 97 [] [(.t 2), (.t 3)], none⟩,
   ⟨some 7, .call (.f 96) [(.t 6)], none⟩,
   ⟨some 8, .ext (.t 7) 0, none⟩,
   ⟨some 9, .ext (.t 7) 1, none⟩,
   ⟨some 4, .mv (.t 8), none⟩,
   ⟨some 5, .mv (.t 9), none⟩])
 .ret)),
  [.tmp 4, .tmp 5]⟩
theorem c63 : chkFn Tryz.prog Tryz.f63 a63 = true := by kernel_rfl

/-- besom/ice.Slow -/
def a64 : AFn := ⟨3, (.seq (.reg [
   ⟨some 3, .box 67 (.t 0), none⟩,
   ⟨some 4, .box 69 (.t 1), none⟩,
   ⟨some 5, .box 24 (.t 2), none⟩,
   ⟨some 6, .mv (.c (.int .i64 0)), none⟩,
   ⟨some 7, .mv (.c (.int .i64 0)), none⟩])
 (.seq (.seq (.reg [
   ⟨some 8, .ld 7 true (.t 3), none⟩,
   ⟨some 9, .ld 5 true (.t 4), none⟩,
   ⟨some 10, .ld 2 true (.t 5), none⟩,
   ⟨some 11, .bsl 24 [.int .i64, .int .i64] 1 [(.int .i64 0), (.int .i64 0)] [(0, 2, (.t 10))], none⟩,
   ⟨some 12, .call (.f 103) [(.t 8), (.t 9), (.t 11)], none⟩,
   ⟨some 13, .not (.t 12), none⟩])
 (.cond (.t 13) (.seq (.reg [
    ⟨some 6, .mv (.c (.int .i64 0)), none⟩,
    ⟨some 7, .mv (.c (.int .i64 2)), none⟩])
  .ret)
 .skip))
 (.seq (.reg [
   ⟨some 14, .ld 7 true (.t 3), none⟩,
   ⟨some 15, .ld 5 true (.t 4), none⟩,
   ⟨some 16, .ld 2 true (.t 5), none⟩,
   ⟨some 17, .call (.f 104) [(.t 14), (.t 15), (.t 16)], none⟩,
   ⟨some 6, .mv (.t 17), none⟩,
   ⟨some 7, .mv (.c (.int .i64 0)), none⟩])
 .ret))),
  [.tmp 6, .tmp 7]⟩
theorem c64 : chkFn Tryz.prog Tryz.f64 a64 = true := by kernel_rfl

/-- (besom/contact.rink).right -/
def a65 : AFn := ⟨2, (.seq (.reg [
   ⟨some 2, .box 127 (.t 0), none⟩,
   ⟨some 4, .mv (.c (.bool false)), none⟩])
 (.seq (.reg [
   ⟨some 5, .fa (.t 2) 0, none⟩,
   ⟨some 6, .ld 7 true (.t 5), none⟩,
   ⟨some 7, .call (.f 105) [(.t 6)], none⟩,
   ⟨some 8, .bin .eql (.t 7) (.c (.int .i64 0)), none⟩,
   ⟨some 9, .mv (.t 8), none⟩,
   ⟨some 10, .fa (.t 2) 7, some (9, true)⟩,
   ⟨some 11, .ld 5 true (.t 10), some (9, true)⟩,
   ⟨some 12, .call (.f 106) [(.t 11)], some (9, true)⟩,
   ⟨some 13, .bin .eql (.t 12) (.c (.int .i64 0)), some (9, true)⟩,
   ⟨some 14, .pick (.t 9) (.t 13) (.c (.bool false)), none⟩,
   ⟨some 15, .mv (.t 14), none⟩,
   ⟨some 16, .mv (.t 1), some (15, true)⟩,
   ⟨some 17, .call (.f 28) [(.t 16)], some (15, true)⟩,
   ⟨some 18, .bin .eql (.t 17) (.c (.int .i64 0)), some (15, true)⟩,
   ⟨some 19, .pick (.t 15) (.t 18) (.c (.bool false)), none⟩,
   ⟨some 20, .mv (.t 19), none⟩,
   ⟨some 21, .fa (.t 2) 12, some (20, true)⟩,
   ⟨some 22, .ld 1 false (.t 21), some (20, true)⟩,
   ⟨some 23, .call (.f 107) [(.t 22)], some (20, true)⟩,
   ⟨some 24, .bin .eql (.t 23) (.c (.int .i64 0)), some (20, true)⟩,
   ⟨some 25, .pick (.t 20) (.t 24) (.c (.bool false)), none⟩,
   ⟨some 26, .mv (.t 25), none⟩,
   ⟨some 27, .fa (.t 2) 13, some (26, true)⟩,
   ⟨some 28, .ld 1 false (.t 27), some (26, true)⟩,
   ⟨some 29, .mv (.t 1), some (26, true)⟩,
   ⟨some 30, .len (.t 29), some (26, true)⟩,
   ⟨some 31, .bin .sub (.t 30) (.c (.int .i64 1)), some (26, true)⟩,
   ⟨some 32, .call (.f 50) [(.t 28), (.c (.int .i64 (-1))), (.t 31)], some (26, true)⟩,
   ⟨some 33, .pick (.t 26) (.t 32) (.c (.bool false)), none⟩,
   ⟨some 34, .mv (.t 33), none⟩,
   ⟨some 35, .fa (.t 2) 14, some (34, true)⟩,
   ⟨some 36, .ld 1 false (.t 35), some (34, true)⟩,
   ⟨some 37, .call (.f 50) [(.t 36), (.c (.int .i64 0)), (.c (.int .i64 1000))], some (34, true)⟩,
   ⟨some 38, .pick (.t 34) (.t 37) (.c (.bool false)), none⟩,
   ⟨some 4, .mv (.t 38), none⟩])
 .ret)),
  [.tmp 4]⟩
theorem c65 : chkFn Tryz.prog Tryz.f65 a65 = true := by kernel_rfl

/-- besom/contact.Tick$1 -/
def a66 : AFn := ⟨4, (.reg [
   ⟨some 4, .ld 15 true (.t 0), none⟩,
   ⟨some 5, .ld 1 false (.t 1), none⟩,
   ⟨some 6, .ld 1 false (.t 2), none⟩,
   ⟨some 7, .call (.f 67) [(.t 4), (.t 5), (.t 6)], none⟩,
   ⟨none, .st 1 (.t 3) (.t 7), none⟩]),
  []⟩
theorem c66 : chkFn Tryz.prog Tryz.f66 a66 = true := by kernel_rfl

/-- (besom/contact.scene).bodies -/
def a68 : AFn := ⟨1, (.seq (.reg [
   ⟨some 2, .mvn 28 [.int .i64, .int .i64, .int .i64, .int .i64, .int .i64, .int .i64, .int .i64, .bool], none⟩])
 (.seq (.reg [
   ⟨some 3, .mvn 28 [.int .i64, .int .i64, .int .i64, .int .i64, .int .i64, .int .i64, .int .i64, .bool], none⟩])
 (.seq (.seq (.reg [
   ⟨some 6, .mv (.t 0), none⟩,
   ⟨some 7, .len (.t 6), none⟩,
   ⟨some 8, .mv (.c (.int .i64 0)), none⟩])
 (.blk 0 (.loop 0 (.seq (.reg [
    ⟨some 9, .bin .lss (.t 8) (.t 7), none⟩])
  (.seq (.cond (.t 9) .skip
  (.exit 0))
  (.seq (.blk 1 (.seq (.reg [
    ⟨some 10, .ia (.t 6) (.t 8) 8, none⟩,
    ⟨some 11, .ld 8 true (.t 10), none⟩,
    ⟨some 5, .alloc 106 [(.int .i64 0), (.int .i64 0), (.int .i64 0), (.int .i64 0), (.int .i64 0), (.int .i64 0), (.int .i64 0), (.bool false)], none⟩,
    ⟨none, .st 8 (.t 5) (.t 11), none⟩])
  (.reg [
    ⟨some 12, .mv (.t 3), none⟩,
    ⟨some 13, .fa (.t 5) 0, none⟩,
    ⟨some 14, .ld 8 true (.t 13), none⟩,
    ⟨some 15, .bsl 28 [.int .i64, .int .i64, .int .i64, .int .i64, .int .i64, .int .i64, .int .i64, .bool] 1 [(.int .i64 0), (.int .i64 0), (.int .i64 0), (.int .i64 0), (.int .i64 0), (.int .i64 0), (.int .i64 0), (.bool false)] [(0, 8, (.t 14))], none⟩,
    ⟨some 16, .app 28 [.int .i64, .int .i64, .int .i64, .int .i64, .int .i64, .int .i64, .int .i64, .bool] 64 (.t 12) (.t 15), none⟩,
    ⟨some 3, .mv (.t 16), none⟩])))
  (.reg [
    ⟨some 17, .bin .add (.t 8) (.c (.int .i64 1)), none⟩,
    ⟨some 8, .mv (.t 17), none⟩])))))))
 (.seq (.reg [
   ⟨some 18, .mv (.t 3), none⟩,
   ⟨some 2, .mv (.t 18), none⟩])
 .ret)))),
  [.tmp 2]⟩
theorem c68 : chkFn Tryz.prog Tryz.f68 a68 = true := by kernel_rfl

/-- (besom/contact.rink).shot -/
def a70 : AFn := ⟨3, (.seq (.reg [
   ⟨some 3, .box 127 (.t 0), none⟩,
   ⟨some 4, .box 117 (.t 1), none⟩,
   ⟨some 5, .box 3 (.t 2), none⟩,
   ⟨some 6, .mv (.c .nfn), none⟩])
 (.seq (.reg [
   ⟨some 7, .mkf 110 [] [(.t 5), (.t 4), (.t 3)], none⟩,
   ⟨some 6, .mv (.t 7), none⟩])
 .ret)),
  [.tmp 6]⟩
theorem c70 : chkFn Tryz.prog Tryz.f70 a70 = true := by kernel_rfl

/-- besom/besomref05.right -/
def a71 : AFn := ⟨2, (.seq (.reg [
   ⟨some 2, .box 91 (.t 0), none⟩,
   ⟨some 4, .mv (.c (.bool false)), none⟩])
 (.seq (.reg [
   ⟨some 7, .fa (.t 2) 0, none⟩,
   ⟨some 8, .ld 7 true (.t 7), none⟩,
   ⟨some 9, .call (.f 111) [(.t 8)], none⟩,
   ⟨some 10, .mv (.t 9), none⟩,
   ⟨some 11, .fa (.t 2) 7, some (10, true)⟩,
   ⟨some 12, .ld 5 true (.t 11), some (10, true)⟩,
   ⟨some 13, .call (.f 112) [(.t 12)], some (10, true)⟩,
   ⟨some 14, .pick (.t 10) (.t 13) (.c (.bool false)), none⟩,
   ⟨some 5, .mv (.t 14), none⟩])
 (.seq (.reg [
   ⟨some 15, .mv (.t 1), none⟩,
   ⟨some 16, .call (.f 58) [(.t 15)], none⟩,
   ⟨some 17, .mv (.t 16), none⟩,
   ⟨some 18, .fa (.t 2) 12, some (17, true)⟩,
   ⟨some 19, .ld 1 false (.t 18), some (17, true)⟩,
   ⟨some 20, .call (.f 113) [(.t 19)], some (17, true)⟩,
   ⟨some 21, .pick (.t 17) (.t 20) (.c (.bool false)), none⟩,
   ⟨some 6, .mv (.t 21), none⟩])
 (.seq (.reg [
   ⟨some 22, .mv (.t 5), none⟩,
   ⟨some 23, .mv (.t 22), none⟩,
   ⟨some 24, .mv (.t 6), some (23, true)⟩,
   ⟨some 25, .pick (.t 23) (.t 24) (.c (.bool false)), none⟩,
   ⟨some 26, .mv (.t 25), none⟩,
   ⟨some 27, .fa (.t 2) 13, some (26, true)⟩,
   ⟨some 28, .ld 1 false (.t 27), some (26, true)⟩,
   ⟨some 29, .mv (.t 1), some (26, true)⟩,
   ⟨some 30, .len (.t 29), some (26, true)⟩,
   ⟨some 31, .bin .sub (.t 30) (.c (.int .i64 1)), some (26, true)⟩,
   ⟨some 32, .call (.f 54) [(.t 28), (.c (.int .i64 (-1))), (.t 31)], some (26, true)⟩,
   ⟨some 33, .pick (.t 26) (.t 32) (.c (.bool false)), none⟩,
   ⟨some 34, .mv (.t 33), none⟩,
   ⟨some 35, .fa (.t 2) 14, some (34, true)⟩,
   ⟨some 36, .ld 1 false (.t 35), some (34, true)⟩,
   ⟨some 37, .call (.f 54) [(.t 36), (.c (.int .i64 0)), (.c (.int .i64 1000))], some (34, true)⟩,
   ⟨some 38, .pick (.t 34) (.t 37) (.c (.bool false)), none⟩,
   ⟨some 4, .mv (.t 38), none⟩])
 .ret)))),
  [.tmp 4]⟩
theorem c71 : chkFn Tryz.prog Tryz.f71 a71 = true := by kernel_rfl

/-- besom/besomref05.tick -/
def a72 : AFn := ⟨3, (.seq (.reg [
   ⟨some 3, .box 91 (.t 0), none⟩,
   ⟨some 6, .mvn 28 [.int .i64, .int .i64, .int .i64, .int .i64, .int .i64, .int .i64, .int .i64, .bool], none⟩,
   ⟨some 7, .mvn 84 [.int .i64, .int .i64, .int .i64], none⟩,
   ⟨some 8, .mv (.c (.int .i64 0)), none⟩])
 (.seq (.reg [
   ⟨some 22, .ld 15 true (.t 3), none⟩,
   ⟨some 23, .mv (.t 1), none⟩,
   ⟨some 24, .mv (.t 2), none⟩,
   ⟨some 25, .call (.f 114) [(.t 22), (.t 23), (.t 24)], none⟩,
   ⟨some 21, .mv (.t 25), none⟩,
   ⟨some 26, .ext (.t 21) 0, none⟩,
   ⟨some 27, .ext (.t 21) 1, none⟩,
   ⟨some 9, .mv (.t 26), none⟩,
   ⟨some 10, .mv (.t 27), none⟩])
 (.seq (.seq (.reg [
   ⟨some 28, .mv (.t 10), none⟩,
   ⟨some 29, .bin .neq (.t 28) (.c (.int .i64 0)), none⟩])
 (.cond (.t 29) (.seq (.reg [
    ⟨some 30, .mv (.t 10), none⟩,
    ⟨some 6, .mvn 28 [.int .i64, .int .i64, .int .i64, .int .i64, .int .i64, .int .i64, .int .i64, .bool], none⟩,
    ⟨some 7, .mvn 84 [.int .i64, .int .i64, .int .i64], none⟩,
    ⟨some 8, .mv (.t 30), none⟩])
  .ret)
 .skip))
 (.seq (.reg [
   ⟨some 11, .mvn 84 [.int .i64, .int .i64, .int .i64], none⟩])
 (.seq (.reg [
   ⟨some 12, .mv (.c (.bool true)), none⟩])
 (.seq (.seq (.reg [
   ⟨some 13, .mv (.c (.int .i64 0)), none⟩])
 (.blk 0 (.loop 0 (.seq (.seq (.reg [
    ⟨some 31, .mv (.t 13), none⟩,
    ⟨some 32, .bin .lss (.t 31) (.c (.int .i64 8)), none⟩,
    ⟨some 33, .mv (.t 32), none⟩,
    ⟨some 34, .mv (.t 12), some (33, true)⟩,
    ⟨some 35, .pick (.t 33) (.t 34) (.c (.bool false)), none⟩])
  (.cond (.t 35) .skip
  (.exit 0)))
  (.seq (.blk 1 (.seq (.reg [
    ⟨some 12, .mv (.c (.bool false)), none⟩])
  (.seq (.reg [
    ⟨some 14, .mv (.c (.int .i64 0)), none⟩])
  (.blk 2 (.loop 1 (.seq (.seq (.reg [
     ⟨some 38, .mv (.t 14), none⟩,
     ⟨some 39, .mv (.t 9), none⟩,
     ⟨some 40, .len (.t 39), none⟩,
     ⟨some 41, .bin .lss (.t 38) (.t 40), none⟩])
   (.cond (.t 41) .skip
   (.exit 2)))
   (.seq (.blk 3 (.seq (.reg [
     ⟨some 44, .mv (.t 14), none⟩,
     ⟨some 45, .bin .add (.t 44) (.c (.int .i64 1)), none⟩,
     ⟨some 15, .mv (.t 45), none⟩])
   (.blk 4 (.loop 2 (.seq (.seq (.reg [
      ⟨some 46, .mv (.t 15), none⟩,
      ⟨some 47, .mv (.t 9), none⟩,
      ⟨some 48, .len (.t 47), none⟩,
      ⟨some 49, .bin .lss (.t 46) (.t 48), none⟩])
    (.cond (.t 49) .skip
    (.exit 4)))
    (.seq (.blk 5 (.seq (.drw [
      (⟨some 52, .mv (.t 9), none⟩, []),
      (⟨some 53, .mv (.t 14), none⟩, []),
      (⟨some 54, .ia (.t 52) (.t 53) 8, none⟩, [0, 1]),
      (⟨some 55, .ld 8 true (.t 54), none⟩, [2, 0, 1]),
      (⟨some 56, .mv (.t 9), none⟩, []),
      (⟨some 57, .mv (.t 15), none⟩, []),
      (⟨some 58, .ia (.t 56) (.t 57) 8, none⟩, [4, 5]),
      (⟨some 59, .ld 8 true (.t 58), none⟩, [6, 4, 5]),
      (⟨some 60, .call (.f 47) [(.t 55), (.t 59)], none⟩, [3, 2, 0, 1, 7, 6, 4, 5]),
      (⟨some 16, .mv (.t 60), none⟩, [8, 3, 2, 0, 1, 7, 6, 4, 5])])
    (.seq (.seq (.reg [
      ⟨some 61, .mv (.t 16), none⟩,
      ⟨some 62, .not (.t 61), none⟩])
    (.cond (.t 62) (.exit 5)
    .skip))
    (.seq (.drw [
      (⟨some 64, .mv (.t 9), none⟩, []),
      (⟨some 65, .mv (.t 14), none⟩, []),
      (⟨some 66, .ia (.t 64) (.t 65) 8, none⟩, [0, 1]),
      (⟨some 67, .ld 8 true (.t 66), none⟩, [2, 0, 1]),
      (⟨some 68, .mv (.t 9), none⟩, []),
      (⟨some 69, .mv (.t 15), none⟩, []),
      (⟨some 70, .ia (.t 68) (.t 69) 8, none⟩, [4, 5]),
      (⟨some 71, .ld 8 true (.t 70), none⟩, [6, 4, 5]),
      (⟨some 72, .fa (.t 3) 14, none⟩, []),
      (⟨some 73, .ld 1 false (.t 72), none⟩, [8]),
      (⟨some 74, .call (.f 55) [(.t 67), (.t 71), (.t 73)], none⟩, [3, 2, 0, 1, 7, 6, 4, 5, 9, 8]),
      (⟨some 63, .mv (.t 74), none⟩, [10, 3, 2, 0, 1, 7, 6, 4, 5, 9, 8]),
      (⟨some 75, .ext (.t 63) 0, none⟩, [11, 10, 3, 2, 0, 1, 7, 6, 4, 5, 9, 8]),
      (⟨some 76, .ext (.t 63) 1, none⟩, [11, 10, 3, 2, 0, 1, 7, 6, 4, 5, 9, 8]),
      (⟨some 17, .alloc 39 [(.int .i64 0), (.int .i64 0), (.int .i64 0), (.int .i64 0), (.int .i64 0), (.int .i64 0), (.int .i64 0), (.bool false), (.int .i64 0), (.int .i64 0), (.int .i64 0), (.int .i64 0), (.int .i64 0), (.int .i64 0), (.int .i64 0), (.bool false), (.bool false)], none⟩, []),
      (⟨none, .st 17 (.t 17) (.t 75), none⟩, [14, 12, 11, 10, 3, 2, 0, 1, 7, 6, 4, 5, 9, 8]),
      (⟨some 18, .mv (.t 76), none⟩, [13, 11, 10, 3, 2, 0, 1, 7, 6, 4, 5, 9, 8, 15, 14, 12])])
    (.seq (.seq (.reg [
      ⟨some 77, .mv (.t 18), none⟩,
      ⟨some 78, .bin .neq (.t 77) (.c (.int .i64 0)), none⟩])
    (.cond (.t 78) (.seq (.reg [
       ⟨some 79, .mv (.t 18), none⟩,
       ⟨some 6, .mvn 28 [.int .i64, .int .i64, .int .i64, .int .i64, .int .i64, .int .i64, .int .i64, .bool], none⟩,
       ⟨some 7, .mvn 84 [.int .i64, .int .i64, .int .i64], none⟩,
       ⟨some 8, .mv (.t 79), none⟩])
     .ret)
    .skip))
    (.seq (.reg [
      ⟨some 80, .mv (.t 9), none⟩,
      ⟨some 81, .mv (.t 14), none⟩,
      ⟨some 82, .fa (.t 17) 0, none⟩,
      ⟨some 83, .ld 8 true (.t 82), none⟩,
      ⟨some 84, .ia (.t 80) (.t 81) 8, none⟩,
      ⟨none, .st 8 (.t 84) (.t 83), none⟩])
    (.seq (.reg [
      ⟨some 85, .mv (.t 9), none⟩,
      ⟨some 86, .mv (.t 15), none⟩,
      ⟨some 87, .fa (.t 17) 8, none⟩,
      ⟨some 88, .ld 8 true (.t 87), none⟩,
      ⟨some 89, .ia (.t 85) (.t 86) 8, none⟩,
      ⟨none, .st 8 (.t 89) (.t 88), none⟩])
    (.seq (.reg [
      ⟨some 90, .fa (.t 17) 16, none⟩,
      ⟨some 91, .ld 1 false (.t 90), none⟩])
    (.cond (.t 91) (.seq (.reg [
       ⟨some 12, .mv (.c (.bool true)), none⟩])
     (.reg [
       ⟨some 92, .mv (.t 11), none⟩,
       ⟨some 93, .mv (.t 2), none⟩,
       ⟨some 94, .mv (.t 14), none⟩,
       ⟨some 95, .mv (.t 15), none⟩,
       ⟨some 96, .bld [(.int .i64 0), (.int .i64 0), (.int .i64 0)] [(0, 1, (.t 93)), (1, 1, (.t 94)), (2, 1, (.t 95))], none⟩,
       ⟨some 97, .bsl 84 [.int .i64, .int .i64, .int .i64] 1 [(.int .i64 0), (.int .i64 0), (.int .i64 0)] [(0, 3, (.t 96))], none⟩,
       ⟨some 98, .app 84 [.int .i64, .int .i64, .int .i64] 24 (.t 92) (.t 97), none⟩,
       ⟨some 11, .mv (.t 98), none⟩]))
    .skip)))))))))
    (.reg [
      ⟨some 50, .mv (.t 15), none⟩,
      ⟨some 51, .bin .add (.t 50) (.c (.int .i64 1)), none⟩,
      ⟨some 15, .mv (.t 51), none⟩])))))))
   (.reg [
     ⟨some 42, .mv (.t 14), none⟩,
     ⟨some 43, .bin .add (.t 42) (.c (.int .i64 1)), none⟩,
     ⟨some 14, .mv (.t 43), none⟩]))))))))
  (.reg [
    ⟨some 36, .mv (.t 13), none⟩,
    ⟨some 37, .bin .add (.t 36) (.c (.int .i64 1)), none⟩,
    ⟨some 13, .mv (.t 37), none⟩]))))))
 (.seq (.seq (.reg [
   ⟨some 19, .mv (.c (.int .i64 0)), none⟩])
 (.blk 6 (.loop 3 (.seq (.seq (.reg [
    ⟨some 99, .mv (.t 19), none⟩,
    ⟨some 100, .mv (.t 9), none⟩,
    ⟨some 101, .len (.t 100), none⟩,
    ⟨some 102, .bin .lss (.t 99) (.t 101), none⟩])
  (.cond (.t 102) .skip
  (.exit 6)))
  (.seq (.blk 7 (.seq (.reg [
    ⟨some 105, .mv (.t 9), none⟩,
    ⟨some 106, .mv (.t 19), none⟩,
    ⟨some 107, .ia (.t 105) (.t 106) 8, none⟩,
    ⟨some 108, .ld 8 true (.t 107), none⟩,
    ⟨some 109, .call (.f 49) [(.t 108)], none⟩,
    ⟨some 20, .mv (.t 109), none⟩])
  (.seq (.reg [
    ⟨some 110, .mv (.t 20), none⟩,
    ⟨some 111, .mv (.t 110), none⟩,
    ⟨some 112, .mv (.t 9), some (111, true)⟩,
    ⟨some 113, .mv (.t 19), some (111, true)⟩,
    ⟨some 114, .ia (.t 112) (.t 113) 8, some (111, true)⟩,
    ⟨some 115, .fa (.t 114) 7, some (111, true)⟩,
    ⟨some 116, .ld 1 false (.t 115), some (111, true)⟩,
    ⟨some 117, .not (.t 116), some (111, true)⟩,
    ⟨some 118, .pick (.t 111) (.t 117) (.c (.bool false)), none⟩])
  (.cond (.t 118) (.seq (.reg [
     ⟨some 119, .mv (.t 9), none⟩,
     ⟨some 120, .mv (.t 19), none⟩,
     ⟨some 121, .ia (.t 119) (.t 120) 8, none⟩,
     ⟨some 122, .fa (.t 121) 7, none⟩,
     ⟨none, .st 1 (.t 122) (.c (.bool true)), none⟩])
   (.reg [
     ⟨some 123, .mv (.t 9), none⟩,
     ⟨some 124, .mv (.t 19), none⟩,
     ⟨some 125, .mv (.t 9), none⟩,
     ⟨some 126, .mv (.t 19), none⟩,
     ⟨some 127, .ia (.t 125) (.t 126) 8, none⟩,
     ⟨some 128, .fa (.t 127) 2, none⟩,
     ⟨some 129, .fa (.t 128) 0, none⟩,
     ⟨some 130, .ld 2 true (.t 129), none⟩,
     ⟨some 131, .bld [(.int .i64 0), (.int .i64 0), (.int .i64 0), (.int .i64 0), (.int .i64 0)] [(0, 2, (.t 130))], none⟩,
     ⟨some 132, .ia (.t 123) (.t 124) 8, none⟩,
     ⟨some 133, .fa (.t 132) 2, none⟩,
     ⟨none, .st 5 (.t 133) (.t 131), none⟩]))
  .skip))))
  (.reg [
    ⟨some 103, .mv (.t 19), none⟩,
    ⟨some 104, .bin .add (.t 103) (.c (.int .i64 1)), none⟩,
    ⟨some 19, .mv (.t 104), none⟩]))))))
 (.seq (.reg [
   ⟨some 134, .mv (.t 9), none⟩,
   ⟨some 135, .mv (.t 11), none⟩,
   ⟨some 6, .mv (.t 134), none⟩,
   ⟨some 7, .mv (.t 135), none⟩,
   ⟨some 8, .mv (.c (.int .i64 0)), none⟩])
 .ret)))))))),
  [.tmp 6, .tmp 7, .tmp 8]⟩
theorem c72 : chkFn Tryz.prog Tryz.f72 a72 = true := by kernel_rfl

/-- besom/besomref04.Strength -/
def a73 : AFn := ⟨2, (.seq (.reg [
   ⟨some 4, .mv (.c (.int .i64 0)), none⟩,
   ⟨some 5, .mv (.c (.int .i64 0)), none⟩])
 (.seq (.reg [
   ⟨some 7, .mv (.t 0), none⟩,
   ⟨some 8, .call (.f 113) [(.t 7)], none⟩,
   ⟨some 6, .mv (.t 8), none⟩])
 (.seq (.seq (.reg [
   ⟨some 9, .mv (.t 6), none⟩,
   ⟨some 10, .not (.t 9), none⟩,
   ⟨some 11, .mv (.t 10), none⟩,
   ⟨some 12, .mv (.t 1), some (11, false)⟩,
   ⟨some 13, .call (.f 115) [(.t 12), (.c (.int .i64 0)), (.c (.int .i64 6000))], some (11, false)⟩,
   ⟨some 14, .not (.t 13), some (11, false)⟩,
   ⟨some 15, .pick (.t 11) (.c (.bool true)) (.t 14), none⟩])
 (.cond (.t 15) (.seq (.reg [
    ⟨some 4, .mv (.c (.int .i64 0)), none⟩,
    ⟨some 5, .mv (.c (.int .i64 2)), none⟩])
  .ret)
 .skip))
 (.seq (.reg [
   ⟨some 16, .mv (.t 0), none⟩,
   ⟨some 17, .mv (.t 1), none⟩,
   ⟨some 18, .call (.f 116) [(.t 16), (.t 17)], none⟩,
   ⟨some 4, .mv (.t 18), none⟩,
   ⟨some 5, .mv (.c (.int .i64 0)), none⟩])
 .ret)))),
  [.tmp 4, .tmp 5]⟩
theorem c73 : chkFn Tryz.prog Tryz.f73 a73 = true := by kernel_rfl

/-- besom/besomref04.Tick -/
def a74 : AFn := ⟨4, (.seq (.reg [
   ⟨some 4, .box 67 (.t 0), none⟩,
   ⟨some 5, .box 69 (.t 1), none⟩,
   ⟨some 6, .box 26 (.t 2), none⟩,
   ⟨some 8, .alloc 26 [(.int .i64 0), (.int .i64 0), (.int .i64 0), (.int .i64 0), (.int .i64 0)], none⟩,
   ⟨some 9, .mv (.c (.int .i64 0)), none⟩])
 (.seq (.reg [
   ⟨some 11, .ld 7 true (.t 4), none⟩,
   ⟨some 12, .ld 5 true (.t 5), none⟩,
   ⟨some 13, .ld 5 true (.t 6), none⟩,
   ⟨some 14, .call (.f 117) [(.t 11), (.t 12), (.t 13), (.c .nsl)], none⟩,
   ⟨some 10, .mv (.t 14), none⟩])
 (.seq (.seq (.reg [
   ⟨some 15, .mv (.t 10), none⟩,
   ⟨some 16, .not (.t 15), none⟩,
   ⟨some 17, .mv (.t 16), none⟩,
   ⟨some 18, .mv (.t 3), some (17, false)⟩,
   ⟨some 19, .call (.f 115) [(.t 18), (.c (.int .i64 0)), (.c (.int .i64 1000))], some (17, false)⟩,
   ⟨some 20, .not (.t 19), some (17, false)⟩,
   ⟨some 21, .pick (.t 17) (.c (.bool true)) (.t 20), none⟩])
 (.cond (.t 21) (.seq (.reg [
    ⟨some 22, .bld [(.int .i64 0), (.int .i64 0), (.int .i64 0), (.int .i64 0), (.int .i64 0)] [], none⟩,
    ⟨none, .st 5 (.t 8) (.t 22), none⟩,
    ⟨some 9, .mv (.c (.int .i64 2)), none⟩])
  .ret)
 .skip))
 (.seq (.reg [
   ⟨some 23, .ld 7 true (.t 4), none⟩,
   ⟨some 24, .ld 5 true (.t 5), none⟩,
   ⟨some 25, .ld 5 true (.t 6), none⟩,
   ⟨some 26, .mv (.t 3), none⟩,
   ⟨some 27, .call (.f 118) [(.t 23), (.t 24), (.t 25), (.t 26)], none⟩,
   ⟨some 28, .ext (.t 27) 0, none⟩,
   ⟨some 29, .ext (.t 27) 1, none⟩,
   ⟨none, .st 5 (.t 8) (.t 28), none⟩,
   ⟨some 9, .mv (.t 29), none⟩])
 .ret)))),
  [.cell 8 5 true, .tmp 9]⟩
theorem c74 : chkFn Tryz.prog Tryz.f74 a74 = true := by kernel_rfl

/-- besom/glide.Check -/
def a75 : AFn := ⟨1, (.seq (.reg [
   ⟨some 1, .box 26 (.t 0), none⟩,
   ⟨some 2, .mv (.c (.int .i64 0)), none⟩])
 (.seq (.seq (.reg [
   ⟨some 3, .fa (.t 1) 0, none⟩,
   ⟨some 4, .ld 2 true (.t 3), none⟩,
   ⟨some 5, .call (.f 119) [(.t 4), (.c (.int .i64 6553600000))], none⟩,
   ⟨some 6, .not (.t 5), none⟩,
   ⟨some 7, .mv (.t 6), none⟩,
   ⟨some 8, .fa (.t 1) 2, some (7, false)⟩,
   ⟨some 9, .ld 2 true (.t 8), some (7, false)⟩,
   ⟨some 10, .call (.f 119) [(.t 9), (.c (.int .i64 65536000))], some (7, false)⟩,
   ⟨some 11, .not (.t 10), some (7, false)⟩,
   ⟨some 12, .pick (.t 7) (.c (.bool true)) (.t 11), none⟩,
   ⟨some 13, .mv (.t 12), none⟩,
   ⟨some 14, .fa (.t 1) 4, some (13, false)⟩,
   ⟨some 15, .ld 1 false (.t 14), some (13, false)⟩,
   ⟨some 16, .call (.f 120) [(.t 15), (.c (.int .i64 (-1000))), (.c (.int .i64 1000))], some (13, false)⟩,
   ⟨some 17, .not (.t 16), some (13, false)⟩,
   ⟨some 18, .pick (.t 13) (.c (.bool true)) (.t 17), none⟩])
 (.cond (.t 18) (.seq (.reg [
    ⟨some 2, .mv (.c (.int .i64 2)), none⟩])
  .ret)
 .skip))
 (.seq (.reg [
   ⟨some 2, .mv (.c (.int .i64 0)), none⟩])
 .ret))),
  [.tmp 2]⟩
theorem c75 : chkFn Tryz.prog Tryz.f75 a75 = true := by kernel_rfl

/-- besom/fixed.Minus -/
def a76 : AFn := ⟨2, (.seq (.reg [
   ⟨some 2, .box 24 (.t 0), none⟩,
   ⟨some 3, .box 24 (.t 1), none⟩,
   ⟨some 4, .alloc 24 [(.int .i64 0), (.int .i64 0)], none⟩,
   ⟨some 5, .mv (.c (.int .i64 0)), none⟩])
 (.seq (.reg [
   ⟨some 6, .ld 2 true (.t 2), none⟩,
   ⟨some 7, .ld 2 true (.t 3), none⟩,
   ⟨some 8, .call (.f 92) [(.t 6), (.t 7), (.f 121)], none⟩,
   ⟨some 9, .ext (.t 8) 0, none⟩,
   ⟨some 10, .ext (.t 8) 1, none⟩,
   ⟨none, .st 2 (.t 4) (.t 9), none⟩,
   ⟨some 5, .mv (.t 10), none⟩])
 .ret)),
  [.cell 4 2 true, .tmp 5]⟩
theorem c76 : chkFn Tryz.prog Tryz.f76 a76 = true := by kernel_rfl

/-- besom/fixed.Within -/
def a77 : AFn := ⟨2, (.seq (.reg [
   ⟨some 2, .box 24 (.t 0), none⟩,
   ⟨some 3, .box 22 (.t 1), none⟩,
   ⟨some 4, .mv (.c (.bool false)), none⟩,
   ⟨some 5, .mv (.c (.int .i64 0)), none⟩])
 (.seq (.reg [
   ⟨some 6, .mkf 123 [] [(.t 2), (.t 3)], none⟩,
   ⟨some 7, .call (.f 122) [(.t 6)], none⟩,
   ⟨some 8, .ext (.t 7) 0, none⟩,
   ⟨some 9, .ext (.t 7) 1, none⟩,
   ⟨some 4, .mv (.t 8), none⟩,
   ⟨some 5, .mv (.t 9), none⟩])
 .ret)),
  [.tmp 4, .tmp 5]⟩
theorem c77 : chkFn Tryz.prog Tryz.f77 a77 = true := by kernel_rfl

/-- besom/besomref04.Moving -/
def a78 : AFn := ⟨1, (.seq (.reg [
   ⟨some 1, .box 26 (.t 0), none⟩,
   ⟨some 2, .mv (.c (.bool false)), none⟩])
 (.seq (.reg [
   ⟨some 5, .fa (.t 1) 2, none⟩,
   ⟨some 6, .fa (.t 5) 0, none⟩,
   ⟨some 7, .ld 1 false (.t 6), none⟩,
   ⟨some 8, .bin .geq (.t 7) (.c (.int .i64 (-65536000))), none⟩,
   ⟨some 9, .mv (.t 8), none⟩,
   ⟨some 10, .fa (.t 1) 2, some (9, true)⟩,
   ⟨some 11, .fa (.t 10) 0, some (9, true)⟩,
   ⟨some 12, .ld 1 false (.t 11), some (9, true)⟩,
   ⟨some 13, .bin .leq (.t 12) (.c (.int .i64 65536000)), some (9, true)⟩,
   ⟨some 14, .pick (.t 9) (.t 13) (.c (.bool false)), none⟩,
   ⟨some 3, .mv (.t 14), none⟩])
 (.seq (.reg [
   ⟨some 15, .fa (.t 1) 2, none⟩,
   ⟨some 16, .fa (.t 15) 1, none⟩,
   ⟨some 17, .ld 1 false (.t 16), none⟩,
   ⟨some 18, .bin .geq (.t 17) (.c (.int .i64 (-65536000))), none⟩,
   ⟨some 19, .mv (.t 18), none⟩,
   ⟨some 20, .fa (.t 1) 2, some (19, true)⟩,
   ⟨some 21, .fa (.t 20) 1, some (19, true)⟩,
   ⟨some 22, .ld 1 false (.t 21), some (19, true)⟩,
   ⟨some 23, .bin .leq (.t 22) (.c (.int .i64 65536000)), some (19, true)⟩,
   ⟨some 24, .pick (.t 19) (.t 23) (.c (.bool false)), none⟩,
   ⟨some 4, .mv (.t 24), none⟩])
 (.seq (.reg [
   ⟨some 25, .mv (.t 3), none⟩,
   ⟨some 26, .mv (.t 25), none⟩,
   ⟨some 27, .mv (.t 4), some (26, true)⟩,
   ⟨some 28, .pick (.t 26) (.t 27) (.c (.bool false)), none⟩,
   ⟨some 29, .mv (.t 28), none⟩,
   ⟨some 30, .fa (.t 1) 0, some (29, true)⟩,
   ⟨some 31, .ld 2 true (.t 30), some (29, true)⟩,
   ⟨some 32, .call (.f 127) [(.t 31)], some (29, true)⟩,
   ⟨some 33, .pick (.t 29) (.t 32) (.c (.bool false)), none⟩,
   ⟨some 34, .mv (.t 33), none⟩,
   ⟨some 35, .fa (.t 1) 4, some (34, true)⟩,
   ⟨some 36, .ld 1 false (.t 35), some (34, true)⟩,
   ⟨some 37, .call (.f 115) [(.t 36), (.c (.int .i64 (-1000))), (.c (.int .i64 1000))], some (34, true)⟩,
   ⟨some 38, .pick (.t 34) (.t 37) (.c (.bool false)), none⟩,
   ⟨some 2, .mv (.t 38), none⟩])
 .ret)))),
  [.tmp 2]⟩
theorem c78 : chkFn Tryz.prog Tryz.f78 a78 = true := by kernel_rfl

/-- besom/besomref01.Within -/
def a79 : AFn := ⟨2, (.seq (.reg [
   ⟨some 2, .box 24 (.t 0), none⟩,
   ⟨some 4, .mv (.c (.bool false)), none⟩,
   ⟨some 5, .mv (.c (.int .i64 0)), none⟩])
 (.seq (.reg [
   ⟨some 9, .ld 2 true (.t 2), none⟩,
   ⟨some 10, .call (.f 128) [(.t 9)], none⟩,
   ⟨some 6, .mv (.t 10), none⟩])
 (.seq (.reg [
   ⟨some 11, .mv (.t 1), none⟩,
   ⟨some 12, .call (.f 129) [(.t 11)], none⟩,
   ⟨some 7, .mv (.t 12), none⟩])
 (.seq (.seq (.reg [
   ⟨some 13, .mv (.t 6), none⟩,
   ⟨some 14, .not (.t 13), none⟩,
   ⟨some 15, .mv (.t 14), none⟩,
   ⟨some 16, .mv (.t 7), some (15, false)⟩,
   ⟨some 17, .not (.t 16), some (15, false)⟩,
   ⟨some 18, .pick (.t 15) (.c (.bool true)) (.t 17), none⟩])
 (.cond (.t 18) (.seq (.reg [
    ⟨some 4, .mv (.c (.bool false)), none⟩,
    ⟨some 5, .mv (.c (.int .i64 2)), none⟩])
  .ret)
 .skip))
 (.seq (.reg [
   ⟨some 19, .mv (.t 1), none⟩,
   ⟨some 20, .call (.f 131) [(.t 19)], none⟩,
   ⟨some 21, .call (.f 130) [(.t 20)], none⟩,
   ⟨some 8, .mv (.t 21), none⟩])
 (.seq (.reg [
   ⟨some 22, .mv (.t 1), none⟩,
   ⟨some 23, .bin .geq (.t 22) (.c (.int .i64 0)), none⟩,
   ⟨some 24, .mv (.t 23), none⟩,
   ⟨some 25, .ld 2 true (.t 2), some (24, true)⟩,
   ⟨some 26, .call (.f 133) [(.t 25)], some (24, true)⟩,
   ⟨some 27, .mv (.t 8), some (24, true)⟩,
   ⟨some 28, .mv (.t 8), some (24, true)⟩,
   ⟨some 29, .call (.f 134) [(.t 27), (.t 28)], some (24, true)⟩,
   ⟨some 30, .call (.f 132) [(.t 26), (.t 29)], some (24, true)⟩,
   ⟨some 31, .bin .leq (.t 30) (.c (.int .i64 0)), some (24, true)⟩,
   ⟨some 32, .pick (.t 24) (.t 31) (.c (.bool false)), none⟩,
   ⟨some 4, .mv (.t 32), none⟩,
   ⟨some 5, .mv (.c (.int .i64 0)), none⟩])
 .ret)))))),
  [.tmp 4, .tmp 5]⟩
theorem c79 : chkFn Tryz.prog Tryz.f79 a79 = true := by kernel_rfl

/-- besom/contact.tried$1 -/
def a80 : AFn := ⟨1, (.seq (.reg [
   ⟨some 4, .no, none⟩,
   ⟨some 1, .mv (.t 4), none⟩])
 (.seq (.reg [
   ⟨some 6, .mv (.t 1), none⟩,
   ⟨some 7, .tas 134 [(.int .i64 0)] (.t 6), none⟩,
   ⟨some 5, .mv (.t 7), none⟩,
   ⟨some 8, .ext (.t 5) 0, none⟩,
   ⟨some 9, .ext (.t 5) 1, none⟩,
   ⟨some 2, .alloc 134 [(.int .i64 0)], none⟩,
   ⟨none, .st 1 (.t 2) (.t 8), none⟩,
   ⟨some 3, .mv (.t 9), none⟩])
 (.seq (.reg [
   ⟨some 10, .mv (.t 3), none⟩])
 (.cond (.t 10) (.reg [
    ⟨some 11, .fa (.t 2) 0, none⟩,
    ⟨some 12, .ld 1 false (.t 11), none⟩,
    ⟨none, .st 1 (.t 0) (.t 12), none⟩])
 (.seq (.reg [
    ⟨some 13, .mv (.t 1), none⟩,
    ⟨some 14, .ifn true (.t 13), none⟩])
  (.cond (.t 14) (.reg [
     ⟨some 15, .mv (.t 1), none⟩,
     ⟨none, .pan (.t 15), none⟩])
  .skip)))))),
  []⟩
theorem c80 : chkFn Tryz.prog Tryz.f80 a80 = true := by kernel_rfl

/-- besom/contact.must[besom/api.Spot] -/
def a81 : AFn := ⟨2, (.seq (.reg [
   ⟨some 2, .box 24 (.t 0), none⟩,
   ⟨some 4, .alloc 24 [(.int .i64 0), (.int .i64 0)], none⟩])
 (.seq (.seq (.reg [
   ⟨some 5, .mv (.t 1), none⟩,
   ⟨some 6, .bin .neq (.t 5) (.c (.int .i64 0)), none⟩])
 (.cond (.t 6) (.reg [
    ⟨some 7, .mv (.t 1), none⟩,
    ⟨some 8, .bld [(.int .i64 0)] [(0, 1, (.t 7))], none⟩,
    ⟨some 9, .mki 134 (.t 8), none⟩,
    ⟨none, .pan (.t 9), none⟩])
 .skip))
 (.seq (.reg [
   ⟨some 10, .ld 2 true (.t 2), none⟩,
   ⟨none, .st 2 (.t 4) (.t 10), none⟩])
 .ret))),
  [.cell 4 2 true]⟩
theorem c81 : chkFn Tryz.prog Tryz.f81 a81 = true := by kernel_rfl

/-- besom/fixed.Unit -/
def a82 : AFn := ⟨1, (.seq (.reg [
   ⟨some 1, .box 24 (.t 0), none⟩,
   ⟨some 2, .alloc 24 [(.int .i64 0), (.int .i64 0)], none⟩,
   ⟨some 3, .mv (.c (.int .i64 0)), none⟩])
 (.seq (.reg [
   ⟨some 4, .mkf 136 [] [(.t 1)], none⟩,
   ⟨some 5, .call (.f 135) [(.t 4)], none⟩,
   ⟨some 6, .ext (.t 5) 0, none⟩,
   ⟨some 7, .ext (.t 5) 1, none⟩,
   ⟨none, .st 2 (.t 2) (.t 6), none⟩,
   ⟨some 3, .mv (.t 7), none⟩])
 .ret)),
  [.cell 2 2 true, .tmp 3]⟩
theorem c82 : chkFn Tryz.prog Tryz.f82 a82 = true := by kernel_rfl

/-- besom/contact.must[besom/api.Fix] -/
def a83 : AFn := ⟨2, (.seq (.reg [
   ⟨some 4, .mv (.c (.int .i64 0)), none⟩])
 (.seq (.seq (.reg [
   ⟨some 5, .mv (.t 1), none⟩,
   ⟨some 6, .bin .neq (.t 5) (.c (.int .i64 0)), none⟩])
 (.cond (.t 6) (.reg [
    ⟨some 7, .mv (.t 1), none⟩,
    ⟨some 8, .bld [(.int .i64 0)] [(0, 1, (.t 7))], none⟩,
    ⟨some 9, .mki 134 (.t 8), none⟩,
    ⟨none, .pan (.t 9), none⟩])
 .skip))
 (.seq (.reg [
   ⟨some 10, .mv (.t 0), none⟩,
   ⟨some 4, .mv (.t 10), none⟩])
 .ret))),
  [.tmp 4]⟩
theorem c83 : chkFn Tryz.prog Tryz.f83 a83 = true := by kernel_rfl

/-- besom/fixed.Dot -/
def a84 : AFn := ⟨3, (.seq (.reg [
   ⟨some 3, .box 24 (.t 0), none⟩,
   ⟨some 4, .box 24 (.t 1), none⟩,
   ⟨some 5, .box 3 (.t 2), none⟩,
   ⟨some 6, .mv (.c (.int .i64 0)), none⟩,
   ⟨some 7, .mv (.c (.int .i64 0)), none⟩])
 (.seq (.reg [
   ⟨some 8, .mkf 140 [] [(.t 3), (.t 4), (.t 5)], none⟩,
   ⟨some 9, .call (.f 96) [(.t 8)], none⟩,
   ⟨some 10, .ext (.t 9) 0, none⟩,
   ⟨some 11, .ext (.t 9) 1, none⟩,
   ⟨some 6, .mv (.t 10), none⟩,
   ⟨some 7, .mv (.t 11), none⟩])
 .ret)),
  [.tmp 6, .tmp 7]⟩
theorem c84 : chkFn Tryz.prog Tryz.f84 a84 = true := by kernel_rfl

/-- besom/fixed.Times -/
def a85 : AFn := ⟨3, (.seq (.reg [
   ⟨some 3, .box 24 (.t 0), none⟩,
   ⟨some 4, .box 22 (.t 1), none⟩,
   ⟨some 5, .box 3 (.t 2), none⟩,
   ⟨some 6, .alloc 24 [(.int .i64 0), (.int .i64 0)], none⟩,
   ⟨some 7, .mv (.c (.int .i64 0)), none⟩])
 (.seq (.reg [
   ⟨some 11, .mkf 145 [] [(.t 3), (.t 4), (.t 5)], none⟩,
   ⟨some 12, .call (.f 144) [(.t 11)], none⟩,
   ⟨some 10, .mv (.t 12), none⟩,
   ⟨some 13, .ext (.t 10) 0, none⟩,
   ⟨some 14, .ext (.t 10) 1, none⟩,
   ⟨some 8, .alloc 161 [.nfn], none⟩,
   ⟨none, .st 1 (.t 8) (.t 13), none⟩,
   ⟨some 9, .mv (.t 14), none⟩])
 (.seq (.seq (.reg [
   ⟨some 15, .mv (.t 9), none⟩,
   ⟨some 16, .bin .neq (.t 15) (.c (.int .i64 0)), none⟩])
 (.cond (.t 16) (.seq (.reg [
    ⟨some 17, .bld [(.int .i64 0), (.int .i64 0)] [], none⟩,
    ⟨some 18, .mv (.t 9), none⟩,
    ⟨none, .st 2 (.t 6) (.t 17), none⟩,
    ⟨some 7, .mv (.t 18), none⟩])
  .ret)
 .skip))
 (.seq (.reg [
   ⟨some 19, .ld 2 true (.t 3), none⟩,
   ⟨some 20, .ld 2 true (.t 3), none⟩,
   ⟨some 21, .mkf 146 [] [(.t 4), (.t 8)], none⟩,
   ⟨some 22, .call (.f 92) [(.t 19), (.t 20), (.t 21)], none⟩,
   ⟨some 23, .ext (.t 22) 0, none⟩,
   ⟨some 24, .ext (.t 22) 1, none⟩,
   ⟨none, .st 2 (.t 6) (.t 23), none⟩,
   ⟨some 7, .mv (.t 24), none⟩])
 .ret)))),
  [.cell 6 2 true, .tmp 7]⟩
theorem c85 : chkFn Tryz.prog Tryz.f85 a85 = true := by kernel_rfl

/-- besom/fixed.Scale -/
def a86 : AFn := ⟨4, (.seq (.reg [
   ⟨some 4, .box 22 (.t 0), none⟩,
   ⟨some 5, .box 3 (.t 1), none⟩,
   ⟨some 6, .box 3 (.t 2), none⟩,
   ⟨some 7, .box 3 (.t 3), none⟩,
   ⟨some 8, .mv (.c (.int .i64 0)), none⟩,
   ⟨some 9, .mv (.c (.int .i64 0)), none⟩])
 (.seq (.reg [
   ⟨some 10, .mkf 148 [] [(.t 4), (.t 7), (.t 5), (.t 6)], none⟩,
   ⟨some 11, .call (.f 96) [(.t 10)], none⟩,
   ⟨some 12, .ext (.t 11) 0, none⟩,
   ⟨some 13, .ext (.t 11) 1, none⟩,
   ⟨some 8, .mv (.t 12), none⟩,
   ⟨some 9, .mv (.t 13), none⟩])
 .ret)),
  [.tmp 8, .tmp 9]⟩
theorem c86 : chkFn Tryz.prog Tryz.f86 a86 = true := by kernel_rfl

/-- besom/besomref01.In -/
def a87 : AFn := ⟨3, (.seq (.reg [
   ⟨some 6, .mv (.c (.bool false)), none⟩])
 (.seq (.reg [
   ⟨some 7, .mv (.t 1), none⟩,
   ⟨some 8, .mv (.t 0), none⟩,
   ⟨some 9, .bin .leq (.t 7) (.t 8), none⟩,
   ⟨some 10, .mv (.t 9), none⟩,
   ⟨some 11, .mv (.t 0), some (10, true)⟩,
   ⟨some 12, .mv (.t 2), some (10, true)⟩,
   ⟨some 13, .bin .leq (.t 11) (.t 12), some (10, true)⟩,
   ⟨some 14, .pick (.t 10) (.t 13) (.c (.bool false)), none⟩,
   ⟨some 6, .mv (.t 14), none⟩])
 .ret)),
  [.tmp 6]⟩
theorem c87 : chkFn Tryz.prog Tryz.f87 a87 = true := by kernel_rfl

/-- besom/besomref01.Unit -/
def a88 : AFn := ⟨1, (.seq (.reg [
   ⟨some 1, .box 24 (.t 0), none⟩,
   ⟨some 2, .alloc 24 [(.int .i64 0), (.int .i64 0)], none⟩,
   ⟨some 3, .mv (.c (.int .i64 0)), none⟩])
 (.seq (.reg [
   ⟨some 6, .ld 2 true (.t 1), none⟩,
   ⟨some 7, .call (.f 128) [(.t 6)], none⟩,
   ⟨some 4, .mv (.t 7), none⟩])
 (.seq (.seq (.reg [
   ⟨some 8, .mv (.t 4), none⟩,
   ⟨some 9, .not (.t 8), none⟩])
 (.cond (.t 9) (.seq (.reg [
    ⟨some 10, .bld [(.int .i64 0), (.int .i64 0)] [], none⟩,
    ⟨none, .st 2 (.t 2) (.t 10), none⟩,
    ⟨some 3, .mv (.c (.int .i64 2)), none⟩])
  .ret)
 .skip))
 (.seq (.reg [
   ⟨some 11, .ld 2 true (.t 1), none⟩,
   ⟨some 12, .call (.f 133) [(.t 11)], none⟩,
   ⟨some 5, .mv (.t 12), none⟩])
 (.seq (.seq (.reg [
   ⟨some 13, .mv (.t 5), none⟩,
   ⟨some 14, .len (.t 13), none⟩,
   ⟨some 15, .bin .eql (.t 14) (.c (.int .i64 0)), none⟩])
 (.cond (.t 15) (.seq (.reg [
    ⟨some 16, .bld [(.int .i64 0), (.int .i64 0)] [], none⟩,
    ⟨none, .st 2 (.t 2) (.t 16), none⟩,
    ⟨some 3, .mv (.c (.int .i64 10)), none⟩])
  .ret)
 .skip))
 (.seq (.drw [
   (⟨some 17, .fa (.t 1) 0, none⟩, []),
   (⟨some 18, .ld 1 false (.t 17), none⟩, [0]),
   (⟨some 19, .mv (.t 5), none⟩, []),
   (⟨some 20, .call (.f 150) [(.t 18), (.t 19)], none⟩, [1, 0, 2]),
   (⟨some 21, .fa (.t 1) 1, none⟩, []),
   (⟨some 22, .ld 1 false (.t 21), none⟩, [4]),
   (⟨some 23, .mv (.t 5), none⟩, []),
   (⟨some 24, .call (.f 150) [(.t 22), (.t 23)], none⟩, [5, 4, 6, 3, 1, 0, 2]),
   (⟨some 25, .bld [(.int .i64 0), (.int .i64 0)] [(0, 1, (.t 20)), (1, 1, (.t 24))], none⟩, [3, 1, 0, 2, 7, 5, 4, 6]),
   (⟨none, .st 2 (.t 2) (.t 25), none⟩, [8, 3, 1, 0, 2, 7, 5, 4, 6]),
   (⟨some 3, .mv (.c (.int .i64 0)), none⟩, [9, 8, 3, 1, 0, 2, 7, 5, 4, 6])])
 .ret)))))),
  [.cell 2 2 true, .tmp 3]⟩
theorem c88 : chkFn Tryz.prog Tryz.f88 a88 = true := by kernel_rfl

/-- besom/besomref01.Dot -/
def a89 : AFn := ⟨3, (.seq (.reg [
   ⟨some 3, .box 24 (.t 0), none⟩,
   ⟨some 4, .box 24 (.t 1), none⟩,
   ⟨some 6, .mv (.c (.int .i64 0)), none⟩,
   ⟨some 7, .mv (.c (.int .i64 0)), none⟩])
 (.seq (.reg [
   ⟨some 11, .ld 2 true (.t 3), none⟩,
   ⟨some 12, .call (.f 128) [(.t 11)], none⟩,
   ⟨some 13, .mv (.t 12), none⟩,
   ⟨some 14, .ld 2 true (.t 4), some (13, true)⟩,
   ⟨some 15, .call (.f 128) [(.t 14)], some (13, true)⟩,
   ⟨some 16, .pick (.t 13) (.t 15) (.c (.bool false)), none⟩,
   ⟨some 8, .mv (.t 16), none⟩])
 (.seq (.reg [
   ⟨some 17, .mv (.t 2), none⟩,
   ⟨some 18, .call (.f 151) [(.t 17)], none⟩,
   ⟨some 9, .mv (.t 18), none⟩])
 (.seq (.seq (.reg [
   ⟨some 19, .mv (.t 8), none⟩,
   ⟨some 20, .not (.t 19), none⟩,
   ⟨some 21, .mv (.t 20), none⟩,
   ⟨some 22, .mv (.t 9), some (21, false)⟩,
   ⟨some 23, .not (.t 22), some (21, false)⟩,
   ⟨some 24, .pick (.t 21) (.c (.bool true)) (.t 23), none⟩])
 (.cond (.t 24) (.seq (.reg [
    ⟨some 6, .mv (.c (.int .i64 0)), none⟩,
    ⟨some 7, .mv (.c (.int .i64 2)), none⟩])
  .ret)
 .skip))
 (.seq (.drw [
   (⟨some 25, .fa (.t 3) 0, none⟩, []),
   (⟨some 26, .ld 1 false (.t 25), none⟩, [0]),
   (⟨some 27, .fa (.t 4) 0, none⟩, []),
   (⟨some 28, .ld 1 false (.t 27), none⟩, [2]),
   (⟨some 29, .call (.f 153) [(.t 26), (.t 28)], none⟩, [1, 0, 3, 2]),
   (⟨some 30, .fa (.t 3) 1, none⟩, []),
   (⟨some 31, .ld 1 false (.t 30), none⟩, [5]),
   (⟨some 32, .fa (.t 4) 1, none⟩, []),
   (⟨some 33, .ld 1 false (.t 32), none⟩, [7]),
   (⟨some 34, .call (.f 153) [(.t 31), (.t 33)], none⟩, [6, 5, 8, 7, 4, 1, 0, 3, 2]),
   (⟨some 35, .call (.f 152) [(.t 29), (.t 34)], none⟩, [4, 1, 0, 3, 2, 9, 6, 5, 8, 7]),
   (⟨some 10, .alloc 209 [(.bool false), .nsl], none⟩, []),
   (⟨none, .st 2 (.t 10) (.t 35), none⟩, [11, 10, 4, 1, 0, 3, 2, 9, 6, 5, 8, 7])])
 (.seq (.drw [
   (⟨some 36, .fa (.t 10) 1, none⟩, []),
   (⟨some 37, .ld 1 false (.t 36), none⟩, [0]),
   (⟨some 38, .call (.f 130) [(.c (.int .i64 65536))], none⟩, []),
   (⟨some 39, .fa (.t 10) 0, none⟩, []),
   (⟨some 40, .ld 1 false (.t 39), none⟩, [3]),
   (⟨some 41, .mv (.t 2), none⟩, []),
   (⟨some 42, .call (.f 155) [(.t 37), (.t 38), (.t 40), (.t 41)], none⟩, [1, 0, 2, 4, 3, 5]),
   (⟨some 43, .ext (.t 42) 0, none⟩, [6, 1, 0, 2, 4, 3, 5]),
   (⟨some 44, .ext (.t 42) 1, none⟩, [6, 1, 0, 2, 4, 3, 5]),
   (⟨some 45, .call (.f 154) [(.t 43), (.t 44)], none⟩, [7, 6, 1, 0, 2, 4, 3, 5, 8]),
   (⟨some 46, .ext (.t 45) 0, none⟩, [9, 7, 6, 1, 0, 2, 4, 3, 5, 8]),
   (⟨some 47, .ext (.t 45) 1, none⟩, [9, 7, 6, 1, 0, 2, 4, 3, 5, 8]),
   (⟨some 6, .mv (.t 46), none⟩, [10, 9, 7, 6, 1, 0, 2, 4, 3, 5, 8, 11]),
   (⟨some 7, .mv (.t 47), none⟩, [11, 9, 7, 6, 1, 0, 2, 4, 3, 5, 8, 12, 10])])
 .ret)))))),
  [.tmp 6, .tmp 7]⟩
theorem c89 : chkFn Tryz.prog Tryz.f89 a89 = true := by kernel_rfl

/-- besom/besomref01.Scale -/
def a90 : AFn := ⟨4, (.seq (.reg [
   ⟨some 8, .mv (.c (.int .i64 0)), none⟩,
   ⟨some 9, .mv (.c (.int .i64 0)), none⟩])
 (.seq (.reg [
   ⟨some 14, .mv (.t 0), none⟩,
   ⟨some 15, .call (.f 129) [(.t 14)], none⟩,
   ⟨some 10, .mv (.t 15), none⟩])
 (.seq (.reg [
   ⟨some 16, .mv (.t 3), none⟩,
   ⟨some 17, .call (.f 151) [(.t 16)], none⟩,
   ⟨some 11, .mv (.t 17), none⟩])
 (.seq (.seq (.reg [
   ⟨some 18, .mv (.t 10), none⟩,
   ⟨some 19, .not (.t 18), none⟩,
   ⟨some 20, .mv (.t 19), none⟩,
   ⟨some 21, .mv (.t 11), some (20, false)⟩,
   ⟨some 22, .not (.t 21), some (20, false)⟩,
   ⟨some 23, .pick (.t 20) (.c (.bool true)) (.t 22), none⟩,
   ⟨some 24, .mv (.t 23), none⟩,
   ⟨some 25, .mv (.t 1), some (24, false)⟩,
   ⟨some 26, .call (.f 87) [(.t 25), (.c (.int .i64 (-2147483648))), (.c (.int .i64 2147483648))], some (24, false)⟩,
   ⟨some 27, .not (.t 26), some (24, false)⟩,
   ⟨some 28, .pick (.t 24) (.c (.bool true)) (.t 27), none⟩,
   ⟨some 29, .mv (.t 28), none⟩,
   ⟨some 30, .mv (.t 2), some (29, false)⟩,
   ⟨some 31, .call (.f 87) [(.t 30), (.c (.int .i64 (-2147483648))), (.c (.int .i64 2147483648))], some (29, false)⟩,
   ⟨some 32, .not (.t 31), some (29, false)⟩,
   ⟨some 33, .pick (.t 29) (.c (.bool true)) (.t 32), none⟩])
 (.cond (.t 33) (.seq (.reg [
    ⟨some 8, .mv (.c (.int .i64 0)), none⟩,
    ⟨some 9, .mv (.c (.int .i64 2)), none⟩])
  .ret)
 .skip))
 (.seq (.seq (.reg [
   ⟨some 34, .mv (.t 2), none⟩,
   ⟨some 35, .bin .eql (.t 34) (.c (.int .i64 0)), none⟩])
 (.cond (.t 35) (.seq (.reg [
    ⟨some 8, .mv (.c (.int .i64 0)), none⟩,
    ⟨some 9, .mv (.c (.int .i64 10)), none⟩])
  .ret)
 .skip))
 (.seq (.reg [
   ⟨some 36, .mv (.t 0), none⟩,
   ⟨some 37, .bin .lss (.t 36) (.c (.int .i64 0)), none⟩,
   ⟨some 38, .mv (.t 1), none⟩,
   ⟨some 39, .bin .lss (.t 38) (.c (.int .i64 0)), none⟩,
   ⟨some 40, .binb true (.t 37) (.t 39), none⟩,
   ⟨some 12, .mv (.t 40), none⟩])
 (.seq (.reg [
   ⟨some 41, .mv (.t 0), none⟩,
   ⟨some 42, .call (.f 131) [(.t 41)], none⟩,
   ⟨some 43, .call (.f 130) [(.t 42)], none⟩,
   ⟨some 44, .mv (.t 1), none⟩,
   ⟨some 45, .mv (.t 1), none⟩,
   ⟨some 46, .neg (.t 45), none⟩,
   ⟨some 47, .mx false (.t 44) (.t 46), none⟩,
   ⟨some 48, .call (.f 130) [(.t 47)], none⟩,
   ⟨some 49, .call (.f 134) [(.t 43), (.t 48)], none⟩,
   ⟨some 13, .mv (.t 49), none⟩])
 (.seq (.reg [
   ⟨some 50, .mv (.t 13), none⟩,
   ⟨some 51, .mv (.t 2), none⟩,
   ⟨some 52, .mv (.t 2), none⟩,
   ⟨some 53, .neg (.t 52), none⟩,
   ⟨some 54, .mx false (.t 51) (.t 53), none⟩,
   ⟨some 55, .call (.f 130) [(.t 54)], none⟩,
   ⟨some 56, .mv (.t 12), none⟩,
   ⟨some 57, .mv (.t 2), none⟩,
   ⟨some 58, .bin .lss (.t 57) (.c (.int .i64 0)), none⟩,
   ⟨some 59, .binb true (.t 56) (.t 58), none⟩,
   ⟨some 60, .mv (.t 3), none⟩,
   ⟨some 61, .call (.f 155) [(.t 50), (.t 55), (.t 59), (.t 60)], none⟩,
   ⟨some 62, .ext (.t 61) 0, none⟩,
   ⟨some 63, .ext (.t 61) 1, none⟩,
   ⟨some 64, .call (.f 154) [(.t 62), (.t 63)], none⟩,
   ⟨some 65, .ext (.t 64) 0, none⟩,
   ⟨some 66, .ext (.t 64) 1, none⟩,
   ⟨some 8, .mv (.t 65), none⟩,
   ⟨some 9, .mv (.t 66), none⟩])
 .ret)))))))),
  [.tmp 8, .tmp 9]⟩
theorem c90 : chkFn Tryz.prog Tryz.f90 a90 = true := by kernel_rfl

/-- besom/besomref01.Times -/
def a91 : AFn := ⟨3, (.seq (.reg [
   ⟨some 3, .box 24 (.t 0), none⟩,
   ⟨some 6, .alloc 24 [(.int .i64 0), (.int .i64 0)], none⟩,
   ⟨some 7, .mv (.c (.int .i64 0)), none⟩])
 (.seq (.reg [
   ⟨some 13, .fa (.t 3) 0, none⟩,
   ⟨some 14, .ld 1 false (.t 13), none⟩,
   ⟨some 15, .mv (.t 1), none⟩,
   ⟨some 16, .mv (.t 2), none⟩,
   ⟨some 17, .call (.f 156) [(.t 14), (.t 15), (.t 16)], none⟩,
   ⟨some 12, .mv (.t 17), none⟩,
   ⟨some 18, .ext (.t 12) 0, none⟩,
   ⟨some 19, .ext (.t 12) 1, none⟩,
   ⟨some 8, .mv (.t 18), none⟩,
   ⟨some 9, .mv (.t 19), none⟩])
 (.seq (.reg [
   ⟨some 21, .fa (.t 3) 1, none⟩,
   ⟨some 22, .ld 1 false (.t 21), none⟩,
   ⟨some 23, .mv (.t 1), none⟩,
   ⟨some 24, .mv (.t 2), none⟩,
   ⟨some 25, .call (.f 156) [(.t 22), (.t 23), (.t 24)], none⟩,
   ⟨some 20, .mv (.t 25), none⟩,
   ⟨some 26, .ext (.t 20) 0, none⟩,
   ⟨some 27, .ext (.t 20) 1, none⟩,
   ⟨some 10, .mv (.t 26), none⟩,
   ⟨some 11, .mv (.t 27), none⟩])
 (.seq (.seq (.reg [
   ⟨some 28, .mv (.t 9), none⟩,
   ⟨some 29, .bin .eql (.t 28) (.c (.int .i64 2)), none⟩,
   ⟨some 30, .mv (.t 29), none⟩,
   ⟨some 31, .mv (.t 11), some (30, false)⟩,
   ⟨some 32, .bin .eql (.t 31) (.c (.int .i64 2)), some (30, false)⟩,
   ⟨some 33, .pick (.t 30) (.c (.bool true)) (.t 32), none⟩])
 (.cond (.t 33) (.seq (.reg [
    ⟨some 34, .bld [(.int .i64 0), (.int .i64 0)] [], none⟩,
    ⟨none, .st 2 (.t 6) (.t 34), none⟩,
    ⟨some 7, .mv (.c (.int .i64 2)), none⟩])
  .ret)
 .skip))
 (.seq (.reg [
   ⟨some 35, .mv (.t 8), none⟩,
   ⟨some 36, .mv (.t 9), none⟩,
   ⟨some 37, .mv (.t 10), none⟩,
   ⟨some 38, .mv (.t 11), none⟩,
   ⟨some 39, .call (.f 157) [(.t 35), (.t 36), (.t 37), (.t 38)], none⟩,
   ⟨some 40, .ext (.t 39) 0, none⟩,
   ⟨some 41, .ext (.t 39) 1, none⟩,
   ⟨none, .st 2 (.t 6) (.t 40), none⟩,
   ⟨some 7, .mv (.t 41), none⟩])
 .ret))))),
  [.cell 6 2 true, .tmp 7]⟩
theorem c91 : chkFn Tryz.prog Tryz.f91 a91 = true := by kernel_rfl

/-- besom/fixed.each -/
def a92 : AFn := ⟨3, (.seq (.reg [
   ⟨some 3, .box 24 (.t 0), none⟩,
   ⟨some 4, .box 24 (.t 1), none⟩,
   ⟨some 5, .box 156 (.t 2), none⟩,
   ⟨some 6, .alloc 24 [(.int .i64 0), (.int .i64 0)], none⟩,
   ⟨some 7, .mv (.c (.int .i64 0)), none⟩])
 (.seq (.reg [
   ⟨some 8, .mkf 158 [] [(.t 3), (.t 4), (.t 5)], none⟩,
   ⟨some 9, .call (.f 135) [(.t 8)], none⟩,
   ⟨some 10, .ext (.t 9) 0, none⟩,
   ⟨some 11, .ext (.t 9) 1, none⟩,
   ⟨none, .st 2 (.t 6) (.t 10), none⟩,
   ⟨some 7, .mv (.t 11), none⟩])
 .ret)),
  [.cell 6 2 true, .tmp 7]⟩
theorem c92 : chkFn Tryz.prog Tryz.f92 a92 = true := by kernel_rfl

/-- besom/fixed.add -/
def a93 : AFn := ⟨2, (.seq (.reg [
   ⟨some 4, .mv (.c (.int .i64 0)), none⟩])
 (.seq (.reg [
   ⟨some 5, .mv (.t 0), none⟩,
   ⟨some 6, .mv (.t 1), none⟩,
   ⟨some 7, .bsl 22 [.int .i64] 2 [(.int .i64 0), (.int .i64 0)] [(0, 1, (.t 5)), (1, 1, (.t 6))], none⟩,
   ⟨some 8, .call (.f 98) [(.t 7)], none⟩])
 (.seq (.reg [
   ⟨some 9, .mv (.t 0), none⟩,
   ⟨some 10, .mv (.t 1), none⟩,
   ⟨some 11, .bin .add (.t 9) (.t 10), none⟩,
   ⟨some 12, .call (.f 126) [(.t 11)], none⟩,
   ⟨some 13, .mv (.t 0), none⟩,
   ⟨some 14, .mv (.t 1), none⟩,
   ⟨some 15, .bin .add (.t 13) (.t 14), none⟩,
   ⟨some 16, .bin .lss (.t 15) (.c (.int .i64 0)), none⟩,
   ⟨some 17, .call (.f 138) [(.t 12), (.t 16)], none⟩,
   ⟨some 4, .mv (.t 17), none⟩])
 .ret))),
  [.tmp 4]⟩
theorem c93 : chkFn Tryz.prog Tryz.f93 a93 = true := by kernel_rfl

/-- slices.ContainsFunc[besom/contact.scene,besom/contact.body] -/
def a94 : AFn := ⟨2, (.seq (.reg [
   ⟨some 4, .mv (.c (.bool false)), none⟩])
 (.seq (.reg [
   ⟨some 5, .mv (.t 0), none⟩,
   ⟨some 6, .mv (.t 1), none⟩,
   ⟨some 7, .call (.f 159) [(.t 5), (.t 6)], none⟩,
   ⟨some 8, .bin .geq (.t 7) (.c (.int .i64 0)), none⟩,
   ⟨some 4, .mv (.t 8), none⟩])
 .ret)),
  [.tmp 4]⟩
theorem c94 : chkFn Tryz.prog Tryz.f94 a94 = true := by kernel_rfl

/-- (besom/contact.scene).still$1 -/
def a95 : AFn := ⟨1, (.seq (.reg [
   ⟨some 1, .box 106 (.t 0), none⟩,
   ⟨some 2, .mv (.c (.bool false)), none⟩])
 (.seq (.reg [
   ⟨some 3, .fa (.t 1) 0, none⟩,
   ⟨some 4, .fa (.t 3) 7, none⟩,
   ⟨some 5, .ld 1 false (.t 4), none⟩,
   ⟨some 6, .not (.t 5), none⟩,
   ⟨some 7, .mv (.t 6), none⟩,
   ⟨some 8, .ld 8 true (.t 1), some (7, true)⟩,
   ⟨some 9, .call (.f 62) [(.t 8)], some (7, true)⟩,
   ⟨some 10, .not (.t 9), some (7, true)⟩,
   ⟨some 11, .pick (.t 7) (.t 10) (.c (.bool false)), none⟩,
   ⟨some 2, .mv (.t 11), none⟩])
 .ret)),
  [.tmp 2]⟩
theorem c95 : chkFn Tryz.prog Tryz.f95 a95 = true := by kernel_rfl

/-- besom/fixed.tried[besom/api.Fix] -/
def a96 : TFn := ⟨(.reg [
   ⟨some 2, .alloc 22 [(.int .i64 0)], none⟩,
   ⟨some 3, .alloc 29 [(.int .i64 0)], none⟩]), 160, [2, 3], 4,
 (.seq (.reg [
   ⟨some 5, .mv (.t 0), none⟩,
   ⟨some 6, .call (.t 5) [], none⟩,
   ⟨none, .st 1 (.t 2) (.t 6), none⟩,
   ⟨none, .st 1 (.t 3) (.c (.int .i64 0)), none⟩])
 .ret),
  [.cell 2 1 false, .cell 3 1 false], 6, 2,
 (.seq (.reg [
   ⟨some 8, .mv (.t 2), none⟩,
   ⟨some 9, .tas 219 [(.int .i64 0)] (.t 8), none⟩,
   ⟨some 7, .mv (.t 9), none⟩,
   ⟨some 10, .ext (.t 7) 0, none⟩,
   ⟨some 11, .ext (.t 7) 1, none⟩,
   ⟨some 3, .alloc 219 [(.int .i64 0)], none⟩,
   ⟨none, .st 1 (.t 3) (.t 10), none⟩,
   ⟨some 4, .mv (.t 11), none⟩])
 (.seq (.reg [
   ⟨some 12, .mv (.t 4), none⟩])
 (.cond (.t 12) (.seq (.reg [
    ⟨some 5, .mv (.c (.int .i64 0)), none⟩])
  (.drw [
    (⟨some 13, .mv (.t 5), none⟩, []),
    (⟨some 14, .fa (.t 3) 0, none⟩, []),
    (⟨some 15, .ld 1 false (.t 14), none⟩, [1]),
    (⟨none, .st 1 (.t 0) (.t 13), none⟩, [0]),
    (⟨none, .st 1 (.t 1) (.t 15), none⟩, [2, 1, 3, 0])]))
 (.seq (.reg [
    ⟨some 16, .mv (.t 2), none⟩,
    ⟨some 17, .ifn true (.t 16), none⟩])
  (.cond (.t 17) (.reg [
     ⟨some 18, .mv (.t 2), none⟩,
     ⟨none, .pan (.t 18), none⟩])
  .skip)))))⟩
theorem c96 : chkMain Tryz.prog Tryz.f96 a96 = true := by kernel_rfl
theorem d96 : chkDef Tryz.prog Tryz.f160 a96 = true := by kernel_rfl

/-- besom/fixed.Root$1 -/
def a97 : AFn := ⟨2, (.seq (.reg [
   ⟨some 2, .mv (.c (.int .i64 0)), none⟩])
 (.seq (.reg [
   ⟨some 4, .ld 1 false (.t 0), none⟩,
   ⟨some 5, .bsl 22 [.int .i64] 1 [(.int .i64 0)] [(0, 1, (.t 4))], none⟩,
   ⟨some 6, .call (.f 98) [(.t 5)], none⟩])
 (.seq (.reg [
   ⟨some 7, .ld 1 false (.t 1), none⟩,
   ⟨some 8, .call (.f 99) [(.t 7)], none⟩,
   ⟨some 3, .mv (.t 8), none⟩])
 (.seq (.reg [
   ⟨some 9, .ld 1 false (.t 0), none⟩,
   ⟨some 10, .bin .geq (.t 9) (.c (.int .i64 0)), none⟩,
   ⟨some 11, .call (.f 100) [(.t 10), (.c (.int .i64 11))], none⟩])
 (.seq (.reg [
   ⟨some 12, .ld 1 false (.t 0), none⟩,
   ⟨some 13, .cv .u64 (.t 12), none⟩,
   ⟨some 14, .call (.f 102) [(.t 13), (.c (.int .u64 65536))], none⟩,
   ⟨some 15, .mv (.t 3), none⟩,
   ⟨some 16, .call (.f 101) [(.t 14), (.t 15)], none⟩,
   ⟨some 2, .mv (.t 16), none⟩])
 .ret))))),
  [.tmp 2]⟩
theorem c97 : chkFn Tryz.prog Tryz.f97 a97 = true := by kernel_rfl

/-- besom/fixed.right -/
def a98 : AFn := ⟨1, (.seq (.reg [
   ⟨some 4, .mv (.t 0), none⟩,
   ⟨some 5, .len (.t 4), none⟩,
   ⟨some 6, .mv (.c (.int .i64 0)), none⟩])
 (.blk 0 (.loop 0 (.seq (.reg [
    ⟨some 7, .bin .lss (.t 6) (.t 5), none⟩])
  (.seq (.cond (.t 7) .skip
  (.exit 0))
  (.seq (.blk 1 (.seq (.reg [
    ⟨some 8, .ia (.t 4) (.t 6) 1, none⟩,
    ⟨some 9, .ld 1 false (.t 8), none⟩,
    ⟨some 3, .mv (.t 9), none⟩])
  (.reg [
    ⟨some 10, .mv (.t 3), none⟩,
    ⟨some 11, .bin .geq (.t 10) (.c (.int .i64 (-70368744177664))), none⟩,
    ⟨some 12, .mv (.t 11), none⟩,
    ⟨some 13, .mv (.t 3), some (12, true)⟩,
    ⟨some 14, .bin .leq (.t 13) (.c (.int .i64 70368744177664)), some (12, true)⟩,
    ⟨some 15, .pick (.t 12) (.t 14) (.c (.bool false)), none⟩,
    ⟨some 16, .call (.f 100) [(.t 15), (.c (.int .i64 2))], none⟩])))
  (.reg [
    ⟨some 17, .bin .add (.t 6) (.c (.int .i64 1)), none⟩,
    ⟨some 6, .mv (.t 17), none⟩]))))))),
  []⟩
theorem c98 : chkFn Tryz.prog Tryz.f98 a98 = true := by kernel_rfl

/-- besom/fixed.ways -/
def a99 : AFn := ⟨1, (.seq (.reg [
   ⟨some 2, .mv (.c .nfn), none⟩])
 (.seq (.seq (.reg [
   ⟨some 3, .mv (.t 0), none⟩])
 (.blk 0 (.seq (.reg [
   ⟨some 5, .bin .eql (.t 3) (.c (.int .i64 0)), none⟩,
   ⟨some 4, .mv (.t 5), none⟩])
 (.cond (.t 4) (.seq (.reg [
    ⟨some 2, .mv (.f 161), none⟩])
  .ret)
 (.seq (.reg [
    ⟨some 7, .bin .eql (.t 3) (.c (.int .i64 1)), none⟩,
    ⟨some 6, .mv (.t 7), none⟩])
  (.cond (.t 6) (.seq (.reg [
     ⟨some 2, .mv (.f 162), none⟩])
   .ret)
  (.seq (.reg [
     ⟨some 9, .bin .eql (.t 3) (.c (.int .i64 2)), none⟩,
     ⟨some 8, .mv (.t 9), none⟩])
   (.cond (.t 8) (.seq (.reg [
      ⟨some 2, .mv (.f 163), none⟩])
    .ret)
   (.seq (.reg [
      ⟨some 11, .bin .eql (.t 3) (.c (.int .i64 3)), none⟩,
      ⟨some 10, .mv (.t 11), none⟩])
    (.cond (.t 10) (.seq (.reg [
       ⟨some 2, .mv (.f 164), none⟩])
     .ret)
    .skip))))))))))
 (.reg [
   ⟨some 12, .bld [(.int .i64 0)] [(0, 1, (.c (.int .i64 2)))], none⟩,
   ⟨some 13, .mki 219 (.t 12), none⟩,
   ⟨none, .pan (.t 13), none⟩]))),
  [.tmp 2]⟩
theorem c99 : chkFn Tryz.prog Tryz.f99 a99 = true := by kernel_rfl

/-- besom/fixed.need -/
def a100 : AFn := ⟨2, (.seq (.reg [
   ⟨some 4, .mv (.t 0), none⟩,
   ⟨some 5, .not (.t 4), none⟩])
 (.cond (.t 5) (.reg [
    ⟨some 6, .mv (.t 1), none⟩,
    ⟨some 7, .bld [(.int .i64 0)] [(0, 1, (.t 6))], none⟩,
    ⟨some 8, .mki 219 (.t 7), none⟩,
    ⟨none, .pan (.t 8), none⟩])
 .skip)),
  []⟩
theorem c100 : chkFn Tryz.prog Tryz.f100 a100 = true := by kernel_rfl

/-- besom/fixed.root -/
def a101 : AFn := ⟨2, (.seq (.reg [
   ⟨some 2, .box 167 (.t 0), none⟩,
   ⟨some 4, .mv (.c (.int .i64 0)), none⟩])
 (.seq (.reg [
   ⟨some 6, .ld 2 true (.t 2), none⟩,
   ⟨some 7, .call (.f 165) [(.t 6)], none⟩,
   ⟨some 5, .mv (.t 7), none⟩])
 (.seq (.seq (.drw [
   (⟨some 8, .mv (.t 5), none⟩, []),
   (⟨some 9, .mv (.t 5), none⟩, []),
   (⟨some 10, .call (.f 102) [(.t 8), (.t 9)], none⟩, [0, 1]),
   (⟨some 11, .ld 2 true (.t 2), none⟩, []),
   (⟨some 12, .eqa true [.int .u64, .int .u64] (.t 10) (.t 11), none⟩, [2, 0, 1, 3]),
   (⟨some 13, .mv (.t 12), none⟩, [4, 2, 0, 1, 3]),
   (⟨some 14, .mv (.t 1), some (13, true)⟩, [5, 4, 2, 0, 1, 3]),
   (⟨some 15, .ld 2 true (.t 2), some (13, true)⟩, [5, 4, 2, 0, 1, 3]),
   (⟨some 16, .call (.f 166) [(.t 15), (.c (.int .u64 2))], some (13, true)⟩, [7, 5, 4, 2, 0, 1, 3]),
   (⟨some 17, .mv (.t 5), some (13, true)⟩, [5, 4, 2, 0, 1, 3]),
   (⟨some 18, .bin .mul (.c (.int .u64 2)) (.t 17), some (13, true)⟩, [9, 5, 4, 2, 0, 1, 3]),
   (⟨some 19, .bin .add (.t 18) (.c (.int .u64 1)), some (13, true)⟩, [10, 9, 5, 4, 2, 0, 1, 3]),
   (⟨some 20, .mv (.t 5), some (13, true)⟩, [5, 4, 2, 0, 1, 3]),
   (⟨some 21, .bin .mul (.c (.int .u64 2)) (.t 20), some (13, true)⟩, [12, 5, 4, 2, 0, 1, 3]),
   (⟨some 22, .bin .add (.t 21) (.c (.int .u64 1)), some (13, true)⟩, [13, 12, 5, 4, 2, 0, 1, 3]),
   (⟨some 23, .call (.f 102) [(.t 19), (.t 22)], some (13, true)⟩, [11, 10, 9, 5, 4, 2, 0, 1, 3, 14, 13, 12, 8, 7]),
   (⟨some 24, .call (.f 125) [(.t 16), (.t 23)], some (13, true)⟩, [8, 7, 5, 4, 2, 0, 1, 3, 15, 11, 10, 9, 14, 13, 12]),
   (⟨some 25, .call (.t 14) [(.t 24), (.c (.bool false))], some (13, true)⟩, [6, 5, 4, 2, 0, 1, 3, 16, 8, 7, 15, 11, 10, 9, 14, 13, 12]),
   (⟨some 26, .pick (.t 13) (.t 25) (.c (.bool false)), none⟩, [5, 4, 2, 0, 1, 3, 17, 6, 16, 8, 7, 15, 11, 10, 9, 14, 13, 12])])
 (.cond (.t 26) (.reg [
    ⟨some 27, .mv (.t 5), none⟩,
    ⟨some 28, .bin .add (.t 27) (.c (.int .u64 1)), none⟩,
    ⟨some 5, .mv (.t 28), none⟩])
 .skip))
 (.seq (.reg [
   ⟨some 29, .mv (.t 5), none⟩,
   ⟨some 30, .call (.f 138) [(.t 29), (.c (.bool false))], none⟩,
   ⟨some 4, .mv (.t 30), none⟩])
 .ret)))),
  [.tmp 4]⟩
theorem c101 : chkFn Tryz.prog Tryz.f101 a101 = true := by kernel_rfl

/-- besom/fixed.product -/
def a102 : AFn := ⟨2, (.seq (.reg [
   ⟨some 4, .alloc 167 [(.int .u64 0), (.int .u64 0)], none⟩])
 (.seq (.reg [
   ⟨some 8, .mv (.t 0), none⟩,
   ⟨some 9, .mv (.t 1), none⟩,
   ⟨some 10, .call (.f 167) [(.t 8), (.t 9)], none⟩,
   ⟨some 7, .mv (.t 10), none⟩,
   ⟨some 11, .ext (.t 7) 0, none⟩,
   ⟨some 12, .ext (.t 7) 1, none⟩,
   ⟨some 5, .mv (.t 11), none⟩,
   ⟨some 6, .mv (.t 12), none⟩])
 (.seq (.reg [
   ⟨some 13, .mv (.t 5), none⟩,
   ⟨some 14, .mv (.t 6), none⟩,
   ⟨some 15, .bld [(.int .u64 0), (.int .u64 0)] [(0, 1, (.t 13)), (1, 1, (.t 14))], none⟩,
   ⟨none, .st 2 (.t 4) (.t 15), none⟩])
 .ret))),
  [.cell 4 2 true]⟩
theorem c102 : chkFn Tryz.prog Tryz.f102 a102 = true := by kernel_rfl

/-- besom/ice.right -/
def a103 : AFn := ⟨3, (.seq (.reg [
   ⟨some 3, .box 67 (.t 0), none⟩,
   ⟨some 4, .box 69 (.t 1), none⟩,
   ⟨some 6, .mv (.c (.bool false)), none⟩])
 (.seq (.reg [
   ⟨some 7, .ld 7 true (.t 3), none⟩,
   ⟨some 8, .call (.f 105) [(.t 7)], none⟩,
   ⟨some 9, .bin .eql (.t 8) (.c (.int .i64 0)), none⟩,
   ⟨some 10, .mv (.t 9), none⟩,
   ⟨some 11, .ld 5 true (.t 4), some (10, true)⟩,
   ⟨some 12, .call (.f 106) [(.t 11)], some (10, true)⟩,
   ⟨some 13, .bin .eql (.t 12) (.c (.int .i64 0)), some (10, true)⟩,
   ⟨some 14, .pick (.t 10) (.t 13) (.c (.bool false)), none⟩,
   ⟨some 15, .mv (.t 14), none⟩,
   ⟨some 16, .mv (.t 2), some (15, true)⟩,
   ⟨some 17, .call (.f 168) [(.t 16)], some (15, true)⟩,
   ⟨some 18, .pick (.t 15) (.t 17) (.c (.bool false)), none⟩,
   ⟨some 6, .mv (.t 18), none⟩])
 .ret)),
  [.tmp 6]⟩
theorem c103 : chkFn Tryz.prog Tryz.f103 a103 = true := by kernel_rfl

/-- besom/ice.slow -/
def a104 : AFn := ⟨3, (.seq (.reg [
   ⟨some 3, .box 67 (.t 0), none⟩,
   ⟨some 4, .box 69 (.t 1), none⟩,
   ⟨some 5, .box 24 (.t 2), none⟩,
   ⟨some 6, .mv (.c (.int .i64 0)), none⟩])
 (.seq (.reg [
   ⟨some 14, .ld 7 true (.t 3), none⟩,
   ⟨some 15, .ld 2 true (.t 5), none⟩,
   ⟨some 16, .call (.f 169) [(.t 14), (.t 15)], none⟩,
   ⟨some 13, .mv (.t 16), none⟩,
   ⟨some 17, .ext (.t 13) 0, none⟩,
   ⟨some 18, .ext (.t 13) 1, none⟩,
   ⟨some 7, .mv (.t 17), none⟩,
   ⟨some 8, .mv (.t 18), none⟩])
 (.seq (.reg [
   ⟨some 20, .fa (.t 4) 0, none⟩,
   ⟨some 21, .ld 1 false (.t 20), none⟩,
   ⟨some 22, .fa (.t 4) 1, none⟩,
   ⟨some 23, .ld 1 false (.t 22), none⟩,
   ⟨some 24, .bin .sub (.t 21) (.t 23), none⟩,
   ⟨some 25, .mv (.t 7), none⟩,
   ⟨some 26, .call (.f 86) [(.t 24), (.t 25), (.c (.int .i64 1000)), (.c (.int .i64 3))], none⟩,
   ⟨some 19, .mv (.t 26), none⟩,
   ⟨some 27, .ext (.t 19) 0, none⟩,
   ⟨some 28, .ext (.t 19) 1, none⟩,
   ⟨some 9, .mv (.t 27), none⟩,
   ⟨some 10, .mv (.t 28), none⟩])
 (.seq (.reg [
   ⟨some 30, .fa (.t 4) 0, none⟩,
   ⟨some 31, .ld 1 false (.t 30), none⟩,
   ⟨some 32, .mv (.t 9), none⟩,
   ⟨some 33, .bin .sub (.t 31) (.t 32), none⟩,
   ⟨some 34, .fa (.t 4) 2, none⟩,
   ⟨some 35, .ld 1 false (.t 34), none⟩,
   ⟨some 36, .mv (.t 8), none⟩,
   ⟨some 37, .bin .mul (.t 35) (.t 36), none⟩,
   ⟨some 38, .bin .sub (.c (.int .i64 1000000)) (.t 37), none⟩,
   ⟨some 39, .call (.f 86) [(.t 33), (.t 38), (.c (.int .i64 1000000)), (.c (.int .i64 3))], none⟩,
   ⟨some 29, .mv (.t 39), none⟩,
   ⟨some 40, .ext (.t 29) 0, none⟩,
   ⟨some 41, .ext (.t 29) 1, none⟩,
   ⟨some 11, .mv (.t 40), none⟩,
   ⟨some 12, .mv (.t 41), none⟩])
 (.seq (.reg [
   ⟨some 42, .mv (.t 11), none⟩,
   ⟨some 6, .mv (.t 42), none⟩])
 .ret))))),
  [.tmp 6]⟩
theorem c104 : chkFn Tryz.prog Tryz.f104 a104 = true := by kernel_rfl

end Go.Proofs.YtbolfnkgbjkbjaaGreat.AM
