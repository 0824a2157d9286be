/- The program's functions in the machine's form (printed by Emit, checked here against the given form). -/
import Derived.Test.YtbolfnkgbjkbjaaAm12
import Derived.Test.YtbolfnkgbjkbjaaProg
set_option linter.unusedVariables false
set_option maxRecDepth 100000
namespace Go.Proofs.Ytbolfnkgbjkbjaa.AM
open Go Go.RowKit

/-- besom/besomlaw05.ContactKeeps -/
def a3 : AFn := ⟨3, (.seq (.reg [
   ⟨some 3, .box 28 (.t 0), none⟩,
   ⟨some 4, .box 28 (.t 1), none⟩,
   ⟨some 6, .mv (.c (.bool false)), none⟩])
 (.seq (.reg [
   ⟨some 21, .call (.f 5) [], none⟩,
   ⟨some 7, .mv (.t 21), none⟩])
 (.seq (.reg [
   ⟨some 23, .ld 8 true (.t 3), none⟩,
   ⟨some 24, .ld 8 true (.t 4), none⟩,
   ⟨some 25, .mv (.t 2), none⟩,
   ⟨some 26, .call (.f 6) [(.t 23), (.t 24), (.t 25)], none⟩,
   ⟨some 22, .mv (.t 26), none⟩,
   ⟨some 27, .ext (.t 22) 0, none⟩,
   ⟨some 28, .ext (.t 22) 1, none⟩,
   ⟨some 29, .ext (.t 22) 2, none⟩,
   ⟨some 30, .ext (.t 22) 3, none⟩,
   ⟨some 8, .alloc 28 [(.int .i64 0), (.int .i64 0), (.int .i64 0), (.int .i64 0), (.int .i64 0), (.int .i64 0), (.int .i64 0), (.bool false)], none⟩,
   ⟨some 9, .alloc 28 [(.int .i64 0), (.int .i64 0), (.int .i64 0), (.int .i64 0), (.int .i64 0), (.int .i64 0), (.int .i64 0), (.bool false)], none⟩,
   ⟨none, .st 8 (.t 8) (.t 27), none⟩,
   ⟨none, .st 8 (.t 9) (.t 28), none⟩,
   ⟨some 10, .mv (.t 29), none⟩,
   ⟨some 11, .mv (.t 30), none⟩])
 (.seq (.seq (.reg [
   ⟨some 31, .mv (.t 11), none⟩,
   ⟨some 32, .bin .neq (.t 31) (.c (.int .i64 0)), none⟩,
   ⟨some 33, .mv (.t 32), none⟩,
   ⟨some 34, .mv (.t 7), some (33, false)⟩,
   ⟨some 35, .not (.t 34), some (33, false)⟩,
   ⟨some 36, .pick (.t 33) (.c (.bool true)) (.t 35), none⟩])
 (.cond (.t 36) (.seq (.reg [
    ⟨some 37, .mv (.t 7), none⟩,
    ⟨some 38, .mv (.t 37), none⟩,
    ⟨some 39, .ld 8 true (.t 8), some (38, true)⟩,
    ⟨some 40, .bld [(.int .i64 0), (.int .i64 0), (.int .i64 0), (.int .i64 0), (.int .i64 0), (.int .i64 0), (.int .i64 0), (.bool false)] [], some (38, true)⟩,
    ⟨some 41, .eqa false [.int .i64, .int .i64, .int .i64, .int .i64, .int .i64, .int .i64, .int .i64, .bool] (.t 39) (.t 40), some (38, true)⟩,
    ⟨some 42, .pick (.t 38) (.t 41) (.c (.bool false)), none⟩,
    ⟨some 43, .mv (.t 42), none⟩,
    ⟨some 44, .ld 8 true (.t 9), some (43, true)⟩,
    ⟨some 45, .bld [(.int .i64 0), (.int .i64 0), (.int .i64 0), (.int .i64 0), (.int .i64 0), (.int .i64 0), (.int .i64 0), (.bool false)] [], some (43, true)⟩,
    ⟨some 46, .eqa false [.int .i64, .int .i64, .int .i64, .int .i64, .int .i64, .int .i64, .int .i64, .bool] (.t 44) (.t 45), some (43, true)⟩,
    ⟨some 47, .pick (.t 43) (.t 46) (.c (.bool false)), none⟩,
    ⟨some 48, .mv (.t 47), none⟩,
    ⟨some 49, .mv (.t 10), some (48, true)⟩,
    ⟨some 50, .not (.t 49), some (48, true)⟩,
    ⟨some 51, .pick (.t 48) (.t 50) (.c (.bool false)), none⟩,
    ⟨some 6, .mv (.t 51), none⟩])
  .ret)
 .skip))
 (.seq (.seq (.reg [
   ⟨some 52, .mv (.t 10), none⟩,
   ⟨some 53, .not (.t 52), none⟩])
 (.cond (.t 53) (.seq (.reg [
    ⟨some 54, .mv (.t 7), none⟩,
    ⟨some 55, .mv (.t 54), none⟩,
    ⟨some 56, .ld 8 true (.t 8), some (55, true)⟩,
    ⟨some 57, .ld 8 true (.t 3), some (55, true)⟩,
    ⟨some 58, .eqa false [.int .i64, .int .i64, .int .i64, .int .i64, .int .i64, .int .i64, .int .i64, .bool] (.t 56) (.t 57), some (55, true)⟩,
    ⟨some 59, .pick (.t 55) (.t 58) (.c (.bool false)), none⟩,
    ⟨some 60, .mv (.t 59), none⟩,
    ⟨some 61, .ld 8 true (.t 9), some (60, true)⟩,
    ⟨some 62, .ld 8 true (.t 4), some (60, true)⟩,
    ⟨some 63, .eqa false [.int .i64, .int .i64, .int .i64, .int .i64, .int .i64, .int .i64, .int .i64, .bool] (.t 61) (.t 62), some (60, true)⟩,
    ⟨some 64, .pick (.t 60) (.t 63) (.c (.bool false)), none⟩,
    ⟨some 6, .mv (.t 64), none⟩])
  .ret)
 .skip))
 (.seq (.drw [
   (⟨some 65, .ld 8 true (.t 8), none⟩, []),
   (⟨some 66, .ld 8 true (.t 9), none⟩, []),
   (⟨some 12, .alloc 28 [(.int .i64 0), (.int .i64 0), (.int .i64 0), (.int .i64 0), (.int .i64 0), (.int .i64 0), (.int .i64 0), (.bool false)], none⟩, []),
   (⟨some 13, .alloc 28 [(.int .i64 0), (.int .i64 0), (.int .i64 0), (.int .i64 0), (.int .i64 0), (.int .i64 0), (.int .i64 0), (.bool false)], none⟩, []),
   (⟨none, .st 8 (.t 12) (.t 65), none⟩, [2, 0, 3]),
   (⟨none, .st 8 (.t 13) (.t 66), none⟩, [3, 1, 4, 2, 0])])
 (.seq (.drw [
   (⟨some 67, .fa (.t 3) 2, none⟩, []),
   (⟨some 68, .fa (.t 67) 2, none⟩, [0]),
   (⟨some 69, .ld 2 true (.t 68), none⟩, [1, 0]),
   (⟨some 70, .fa (.t 4) 2, none⟩, []),
   (⟨some 71, .fa (.t 70) 2, none⟩, [3]),
   (⟨some 72, .ld 2 true (.t 71), none⟩, [4, 3]),
   (⟨some 73, .fa (.t 12) 2, none⟩, [0, 1, 2]),
   (⟨some 74, .fa (.t 73) 2, none⟩, [6, 0, 1, 2]),
   (⟨none, .st 2 (.t 74) (.t 69), none⟩, [7, 6, 0, 1, 2]),
   (⟨some 75, .fa (.t 13) 2, none⟩, [0, 1, 2, 3, 4, 5, 6, 7, 8]),
   (⟨some 76, .fa (.t 75) 2, none⟩, [9, 0, 1, 2, 3, 4, 5, 6, 7, 8]),
   (⟨none, .st 2 (.t 76) (.t 72), none⟩, [10, 9, 0, 1, 2, 3, 4, 5, 6, 7, 8])])
 (.seq (.seq (.reg [
   ⟨some 77, .ld 8 true (.t 12), none⟩,
   ⟨some 78, .ld 8 true (.t 3), none⟩,
   ⟨some 79, .eqa true [.int .i64, .int .i64, .int .i64, .int .i64, .int .i64, .int .i64, .int .i64, .bool] (.t 77) (.t 78), none⟩,
   ⟨some 80, .mv (.t 79), none⟩,
   ⟨some 81, .ld 8 true (.t 13), some (80, false)⟩,
   ⟨some 82, .ld 8 true (.t 4), some (80, false)⟩,
   ⟨some 83, .eqa true [.int .i64, .int .i64, .int .i64, .int .i64, .int .i64, .int .i64, .int .i64, .bool] (.t 81) (.t 82), some (80, false)⟩,
   ⟨some 84, .pick (.t 80) (.c (.bool true)) (.t 83), none⟩,
   ⟨some 85, .mv (.t 84), none⟩,
   ⟨some 86, .fa (.t 8) 2, some (85, false)⟩,
   ⟨some 87, .fa (.t 86) 2, some (85, false)⟩,
   ⟨some 88, .fa (.t 87) 0, some (85, false)⟩,
   ⟨some 89, .ld 1 false (.t 88), some (85, false)⟩,
   ⟨some 90, .fa (.t 9) 2, some (85, false)⟩,
   ⟨some 91, .fa (.t 90) 2, some (85, false)⟩,
   ⟨some 92, .fa (.t 91) 0, some (85, false)⟩,
   ⟨some 93, .ld 1 false (.t 92), some (85, false)⟩,
   ⟨some 94, .bin .add (.t 89) (.t 93), some (85, false)⟩,
   ⟨some 95, .fa (.t 3) 2, some (85, false)⟩,
   ⟨some 96, .fa (.t 95) 2, some (85, false)⟩,
   ⟨some 97, .fa (.t 96) 0, some (85, false)⟩,
   ⟨some 98, .ld 1 false (.t 97), some (85, false)⟩,
   ⟨some 99, .fa (.t 4) 2, some (85, false)⟩,
   ⟨some 100, .fa (.t 99) 2, some (85, false)⟩,
   ⟨some 101, .fa (.t 100) 0, some (85, false)⟩,
   ⟨some 102, .ld 1 false (.t 101), some (85, false)⟩,
   ⟨some 103, .bin .add (.t 98) (.t 102), some (85, false)⟩,
   ⟨some 104, .bin .neq (.t 94) (.t 103), some (85, false)⟩,
   ⟨some 105, .pick (.t 85) (.c (.bool true)) (.t 104), none⟩,
   ⟨some 106, .mv (.t 105), none⟩,
   ⟨some 107, .fa (.t 8) 2, some (106, false)⟩,
   ⟨some 108, .fa (.t 107) 2, some (106, false)⟩,
   ⟨some 109, .fa (.t 108) 1, some (106, false)⟩,
   ⟨some 110, .ld 1 false (.t 109), some (106, false)⟩,
   ⟨some 111, .fa (.t 9) 2, some (106, false)⟩,
   ⟨some 112, .fa (.t 111) 2, some (106, false)⟩,
   ⟨some 113, .fa (.t 112) 1, some (106, false)⟩,
   ⟨some 114, .ld 1 false (.t 113), some (106, false)⟩,
   ⟨some 115, .bin .add (.t 110) (.t 114), some (106, false)⟩,
   ⟨some 116, .fa (.t 3) 2, some (106, false)⟩,
   ⟨some 117, .fa (.t 116) 2, some (106, false)⟩,
   ⟨some 118, .fa (.t 117) 1, some (106, false)⟩,
   ⟨some 119, .ld 1 false (.t 118), some (106, false)⟩,
   ⟨some 120, .fa (.t 4) 2, some (106, false)⟩,
   ⟨some 121, .fa (.t 120) 2, some (106, false)⟩,
   ⟨some 122, .fa (.t 121) 1, some (106, false)⟩,
   ⟨some 123, .ld 1 false (.t 122), some (106, false)⟩,
   ⟨some 124, .bin .add (.t 119) (.t 123), some (106, false)⟩,
   ⟨some 125, .bin .neq (.t 115) (.t 124), some (106, false)⟩,
   ⟨some 126, .pick (.t 106) (.c (.bool true)) (.t 125), none⟩])
 (.cond (.t 126) (.seq (.reg [
    ⟨some 6, .mv (.c (.bool false)), none⟩])
  .ret)
 .skip))
 (.seq (.reg [
   ⟨some 127, .fa (.t 3) 2, none⟩,
   ⟨some 128, .fa (.t 127) 2, none⟩,
   ⟨some 129, .fa (.t 128) 0, none⟩,
   ⟨some 130, .ld 1 false (.t 129), none⟩,
   ⟨some 131, .fa (.t 4) 2, none⟩,
   ⟨some 132, .fa (.t 131) 2, none⟩,
   ⟨some 133, .fa (.t 132) 0, none⟩,
   ⟨some 134, .ld 1 false (.t 133), none⟩,
   ⟨some 135, .bin .sub (.t 130) (.t 134), none⟩,
   ⟨some 136, .fa (.t 3) 2, none⟩,
   ⟨some 137, .fa (.t 136) 2, none⟩,
   ⟨some 138, .fa (.t 137) 1, none⟩,
   ⟨some 139, .ld 1 false (.t 138), none⟩,
   ⟨some 140, .fa (.t 4) 2, none⟩,
   ⟨some 141, .fa (.t 140) 2, none⟩,
   ⟨some 142, .fa (.t 141) 1, none⟩,
   ⟨some 143, .ld 1 false (.t 142), none⟩,
   ⟨some 144, .bin .sub (.t 139) (.t 143), none⟩,
   ⟨some 145, .bld [(.int .i64 0), (.int .i64 0)] [(0, 1, (.t 135)), (1, 1, (.t 144))], none⟩,
   ⟨some 14, .alloc 24 [(.int .i64 0), (.int .i64 0)], none⟩,
   ⟨none, .st 2 (.t 14) (.t 145), none⟩])
 (.seq (.reg [
   ⟨some 146, .fa (.t 14) 0, none⟩,
   ⟨some 147, .ld 1 false (.t 146), none⟩,
   ⟨some 148, .fa (.t 14) 0, none⟩,
   ⟨some 149, .ld 1 false (.t 148), none⟩,
   ⟨some 150, .neg (.t 149), none⟩,
   ⟨some 151, .mx false (.t 147) (.t 150), none⟩,
   ⟨some 152, .fa (.t 14) 1, none⟩,
   ⟨some 153, .ld 1 false (.t 152), none⟩,
   ⟨some 154, .fa (.t 14) 1, none⟩,
   ⟨some 155, .ld 1 false (.t 154), none⟩,
   ⟨some 156, .neg (.t 155), none⟩,
   ⟨some 157, .mx false (.t 153) (.t 156), none⟩,
   ⟨some 158, .bin .add (.t 151) (.t 157), none⟩,
   ⟨some 159, .bin .mul (.c (.int .i64 4)) (.t 158), none⟩,
   ⟨some 160, .bin .add (.t 159) (.c (.int .i64 8)), none⟩,
   ⟨some 161, .cv .u64 (.t 160), none⟩,
   ⟨some 15, .mv (.t 161), none⟩])
 (.seq (.reg [
   ⟨some 163, .ld 8 true (.t 3), none⟩,
   ⟨some 164, .ld 8 true (.t 4), none⟩,
   ⟨some 165, .call (.f 7) [(.t 163), (.t 164)], none⟩,
   ⟨some 162, .mv (.t 165), none⟩,
   ⟨some 166, .ext (.t 162) 0, none⟩,
   ⟨some 167, .ext (.t 162) 1, none⟩,
   ⟨some 16, .mv (.t 166), none⟩,
   ⟨some 17, .mv (.t 167), none⟩])
 (.seq (.reg [
   ⟨some 169, .mv (.t 17), none⟩,
   ⟨some 170, .mv (.t 15), none⟩,
   ⟨some 171, .call (.f 8) [(.t 169), (.t 170), (.c (.int .u64 0))], none⟩,
   ⟨some 168, .mv (.t 171), none⟩,
   ⟨some 172, .ext (.t 168) 0, none⟩,
   ⟨some 173, .ext (.t 168) 1, none⟩,
   ⟨some 17, .mv (.t 172), none⟩,
   ⟨some 18, .mv (.t 173), none⟩])
 (.seq (.reg [
   ⟨some 174, .mv (.t 16), none⟩,
   ⟨some 175, .mv (.t 18), none⟩,
   ⟨some 176, .bin .add (.t 174) (.t 175), none⟩,
   ⟨some 16, .mv (.t 176), none⟩])
 (.seq (.reg [
   ⟨some 178, .ld 8 true (.t 8), none⟩,
   ⟨some 179, .ld 8 true (.t 9), none⟩,
   ⟨some 180, .call (.f 7) [(.t 178), (.t 179)], none⟩,
   ⟨some 177, .mv (.t 180), none⟩,
   ⟨some 181, .ext (.t 177) 0, none⟩,
   ⟨some 182, .ext (.t 177) 1, none⟩,
   ⟨some 19, .mv (.t 181), none⟩,
   ⟨some 20, .mv (.t 182), none⟩])
 (.seq (.reg [
   ⟨some 183, .mv (.t 7), none⟩,
   ⟨some 184, .mv (.t 183), none⟩,
   ⟨some 185, .mv (.t 19), some (184, true)⟩,
   ⟨some 186, .mv (.t 16), some (184, true)⟩,
   ⟨some 187, .bin .lss (.t 185) (.t 186), some (184, true)⟩,
   ⟨some 188, .mv (.t 187), some (184, true)⟩,
   ⟨some 189, .mv (.t 19), some (188, false)⟩,
   ⟨some 190, .mv (.t 16), some (188, false)⟩,
   ⟨some 191, .bin .eql (.t 189) (.t 190), some (188, false)⟩,
   ⟨some 192, .mv (.t 191), some (188, false)⟩,
   ⟨some 193, .mv (.t 20), some (192, true)⟩,
   ⟨some 194, .mv (.t 17), some (192, true)⟩,
   ⟨some 195, .bin .leq (.t 193) (.t 194), some (192, true)⟩,
   ⟨some 196, .pick (.t 192) (.t 195) (.c (.bool false)), some (188, false)⟩,
   ⟨some 197, .pick (.t 188) (.c (.bool true)) (.t 196), some (184, true)⟩,
   ⟨some 198, .pick (.t 184) (.t 197) (.c (.bool false)), none⟩,
   ⟨some 6, .mv (.t 198), none⟩])
 .ret))))))))))))))),
  [.tmp 6]⟩
theorem c3 : chkFn Try.prog Try.f3 a3 = true := by kernel_rfl

/-- besom/besomlaw05.ContactNames -/
def a4 : AFn := ⟨0, (.seq (.reg [
   ⟨some 0, .mv (.c (.bool false)), none⟩])
 (.seq (.reg [
   ⟨some 27, .call (.f 9) [(.c (.int .i64 0)), (.c (.int .i64 0)), (.c (.int .i64 20000))], none⟩,
   ⟨some 28, .call (.f 9) [(.c (.int .i64 1)), (.c (.int .i64 19000000)), (.c (.int .i64 0))], none⟩,
   ⟨some 1, .alloc 28 [(.int .i64 0), (.int .i64 0), (.int .i64 0), (.int .i64 0), (.int .i64 0), (.int .i64 0), (.int .i64 0), (.bool false)], none⟩,
   ⟨some 2, .alloc 28 [(.int .i64 0), (.int .i64 0), (.int .i64 0), (.int .i64 0), (.int .i64 0), (.int .i64 0), (.int .i64 0), (.bool false)], none⟩,
   ⟨none, .st 8 (.t 1) (.t 27), none⟩,
   ⟨none, .st 8 (.t 2) (.t 28), none⟩])
 (.seq (.drw [
   (⟨some 30, .ld 8 true (.t 1), none⟩, []),
   (⟨some 31, .call (.f 9) [(.c (.int .i64 1)), (.c (.int .i64 19005441)), (.c (.int .i64 0))], none⟩, []),
   (⟨some 32, .call (.f 10) [(.t 30), (.t 31)], none⟩, [0, 1]),
   (⟨some 29, .mv (.t 32), none⟩, [2, 0, 1]),
   (⟨some 33, .ext (.t 29) 0, none⟩, [3, 2, 0, 1]),
   (⟨some 34, .ext (.t 29) 1, none⟩, [3, 2, 0, 1]),
   (⟨some 3, .mv (.t 33), none⟩, [4, 3, 2, 0, 1]),
   (⟨some 4, .mv (.t 34), none⟩, [5, 3, 2, 0, 1, 6, 4])])
 (.seq (.drw [
   (⟨some 36, .ld 8 true (.t 1), none⟩, []),
   (⟨some 37, .call (.f 9) [(.c (.int .i64 1)), (.c (.int .i64 0)), (.c (.int .i64 0))], none⟩, []),
   (⟨some 38, .call (.f 10) [(.t 36), (.t 37)], none⟩, [0, 1]),
   (⟨some 35, .mv (.t 38), none⟩, [2, 0, 1]),
   (⟨some 39, .ext (.t 35) 0, none⟩, [3, 2, 0, 1]),
   (⟨some 40, .ext (.t 35) 1, none⟩, [3, 2, 0, 1]),
   (⟨some 5, .mv (.t 39), none⟩, [4, 3, 2, 0, 1]),
   (⟨some 6, .mv (.t 40), none⟩, [5, 3, 2, 0, 1, 6, 4])])
 (.seq (.reg [
   ⟨some 42, .ld 8 true (.t 1), none⟩,
   ⟨some 43, .ld 8 true (.t 2), none⟩,
   ⟨some 44, .call (.f 6) [(.t 42), (.t 43), (.c (.int .i64 1000))], none⟩,
   ⟨some 41, .mv (.t 44), none⟩,
   ⟨some 45, .ext (.t 41) 0, none⟩,
   ⟨some 46, .ext (.t 41) 1, none⟩,
   ⟨some 47, .ext (.t 41) 2, none⟩,
   ⟨some 48, .ext (.t 41) 3, none⟩,
   ⟨some 7, .alloc 28 [(.int .i64 0), (.int .i64 0), (.int .i64 0), (.int .i64 0), (.int .i64 0), (.int .i64 0), (.int .i64 0), (.bool false)], none⟩,
   ⟨some 8, .alloc 28 [(.int .i64 0), (.int .i64 0), (.int .i64 0), (.int .i64 0), (.int .i64 0), (.int .i64 0), (.int .i64 0), (.bool false)], none⟩,
   ⟨none, .st 8 (.t 7) (.t 45), none⟩,
   ⟨none, .st 8 (.t 8) (.t 46), none⟩,
   ⟨some 9, .mv (.t 47), none⟩,
   ⟨some 10, .mv (.t 48), none⟩])
 (.seq (.drw [
   (⟨some 50, .call (.f 9) [(.c (.int .i64 0)), (.c (.int .i64 0)), (.c (.int .i64 0))], none⟩, []),
   (⟨some 51, .ld 8 true (.t 2), none⟩, []),
   (⟨some 52, .call (.f 6) [(.t 50), (.t 51), (.c (.int .i64 1000))], none⟩, [0, 1]),
   (⟨some 49, .mv (.t 52), none⟩, [2, 0, 1]),
   (⟨some 53, .ext (.t 49) 0, none⟩, [3, 2, 0, 1]),
   (⟨some 54, .ext (.t 49) 1, none⟩, [3, 2, 0, 1]),
   (⟨some 55, .ext (.t 49) 2, none⟩, [3, 2, 0, 1]),
   (⟨some 56, .ext (.t 49) 3, none⟩, [3, 2, 0, 1]),
   (⟨some 11, .alloc 28 [(.int .i64 0), (.int .i64 0), (.int .i64 0), (.int .i64 0), (.int .i64 0), (.int .i64 0), (.int .i64 0), (.bool false)], none⟩, []),
   (⟨some 12, .alloc 28 [(.int .i64 0), (.int .i64 0), (.int .i64 0), (.int .i64 0), (.int .i64 0), (.int .i64 0), (.int .i64 0), (.bool false)], none⟩, []),
   (⟨none, .st 8 (.t 11) (.t 53), none⟩, [8, 4, 3, 2, 0, 1, 9]),
   (⟨none, .st 8 (.t 12) (.t 54), none⟩, [9, 5, 3, 2, 0, 1, 10, 8, 4]),
   (⟨some 13, .mv (.t 55), none⟩, [6, 3, 2, 0, 1, 11, 9, 5, 10, 8, 4]),
   (⟨some 14, .mv (.t 56), none⟩, [7, 3, 2, 0, 1, 12, 6, 11, 9, 5, 10, 8, 4])])
 (.seq (.reg [
   ⟨some 57, .call (.f 9) [(.c (.int .i64 0)), (.c (.int .i64 0)), (.c (.int .i64 0))], none⟩,
   ⟨some 15, .alloc 28 [(.int .i64 0), (.int .i64 0), (.int .i64 0), (.int .i64 0), (.int .i64 0), (.int .i64 0), (.int .i64 0), (.bool false)], none⟩,
   ⟨none, .st 8 (.t 15) (.t 57), none⟩])
 (.seq (.reg [
   ⟨some 58, .fa (.t 15) 2, none⟩,
   ⟨some 59, .fa (.t 58) 0, none⟩,
   ⟨some 60, .fa (.t 59) 0, none⟩,
   ⟨none, .st 1 (.t 60) (.c (.int .i64 (-146145280))), none⟩])
 (.seq (.reg [
   ⟨some 62, .ld 8 true (.t 15), none⟩,
   ⟨some 63, .call (.f 11) [(.t 62)], none⟩,
   ⟨some 61, .mv (.t 63), none⟩,
   ⟨some 64, .ext (.t 61) 0, none⟩,
   ⟨some 65, .ext (.t 61) 1, none⟩,
   ⟨some 16, .mv (.t 64), none⟩,
   ⟨some 17, .mv (.t 65), none⟩])
 (.seq (.reg [
   ⟨some 67, .call (.f 9) [(.c (.int .i64 0)), (.c (.int .i64 129368064)), (.c (.int .i64 0))], none⟩,
   ⟨some 68, .call (.f 11) [(.t 67)], none⟩,
   ⟨some 66, .mv (.t 68), none⟩,
   ⟨some 69, .ext (.t 66) 0, none⟩,
   ⟨some 70, .ext (.t 66) 1, none⟩,
   ⟨some 18, .mv (.t 69), none⟩,
   ⟨some 19, .mv (.t 70), none⟩])
 (.seq (.reg [
   ⟨some 72, .call (.f 9) [(.c (.int .i64 0)), (.c (.int .i64 129368065)), (.c (.int .i64 0))], none⟩,
   ⟨some 73, .call (.f 11) [(.t 72)], none⟩,
   ⟨some 71, .mv (.t 73), none⟩,
   ⟨some 74, .ext (.t 71) 0, none⟩,
   ⟨some 75, .ext (.t 71) 1, none⟩,
   ⟨some 20, .mv (.t 74), none⟩,
   ⟨some 21, .mv (.t 75), none⟩])
 (.seq (.reg [
   ⟨some 76, .ld 8 true (.t 1), none⟩,
   ⟨some 77, .ld 8 true (.t 1), none⟩,
   ⟨some 78, .bsl 28 [.int .i64, .int .i64, .int .i64, .int .i64, .int .i64, .int .i64, .int .i64, .bool] 2 [(.int .i64 0), (.int .i64 0), (.int .i64 0), (.int .i64 0), (.int .i64 0), (.int .i64 0), (.int .i64 0), (.bool false), (.int .i64 0), (.int .i64 0), (.int .i64 0), (.int .i64 0), (.int .i64 0), (.int .i64 0), (.int .i64 0), (.bool false)] [(0, 8, (.t 76)), (8, 8, (.t 77))], none⟩,
   ⟨some 79, .call (.f 12) [(.t 78)], none⟩,
   ⟨some 22, .mv (.t 79), none⟩])
 (.seq (.reg [
   ⟨some 80, .bld [(.int .i64 0), (.int .i64 0), (.int .i64 0), (.int .i64 0), (.int .i64 0)] [(4, 1, (.c (.int .i64 1)))], none⟩,
   ⟨some 81, .bld [(.int .i64 0), (.int .i64 0), (.int .i64 0), (.int .i64 0), (.int .i64 0), (.int .i64 0), (.int .i64 0), (.bool false)] [(7, 1, (.c (.bool true))), (2, 5, (.t 80))], none⟩,
   ⟨some 82, .bsl 28 [.int .i64, .int .i64, .int .i64, .int .i64, .int .i64, .int .i64, .int .i64, .bool] 1 [(.int .i64 0), (.int .i64 0), (.int .i64 0), (.int .i64 0), (.int .i64 0), (.int .i64 0), (.int .i64 0), (.bool false)] [(0, 8, (.t 81))], none⟩,
   ⟨some 83, .call (.f 12) [(.t 82)], none⟩,
   ⟨some 23, .mv (.t 83), none⟩])
 (.seq (.reg [
   ⟨some 85, .msl 59 [.int .i64, .int .i64, .int .i64, .int .i64] 32 (0, 0, 0, 0) (.c (.int .i64 17)) (.c (.int .i64 17)), none⟩,
   ⟨some 86, .call (.f 13) [(.t 85)], none⟩,
   ⟨some 84, .mv (.t 86), none⟩,
   ⟨some 87, .ext (.t 84) 0, none⟩,
   ⟨some 88, .ext (.t 84) 1, none⟩,
   ⟨some 24, .mv (.t 87), none⟩,
   ⟨some 25, .mv (.t 88), none⟩])
 (.seq (.drw [
   (⟨some 89, .ld 8 true (.t 7), none⟩, []),
   (⟨some 90, .call (.f 9) [(.c (.int .i64 0)), (.c (.int .i64 0)), (.c (.int .i64 0))], none⟩, []),
   (⟨some 91, .eqa false [.int .i64, .int .i64, .int .i64, .int .i64, .int .i64, .int .i64, .int .i64, .bool] (.t 89) (.t 90), none⟩, [0, 1]),
   (⟨some 92, .mv (.t 91), none⟩, [2, 0, 1]),
   (⟨some 93, .ld 8 true (.t 8), some (92, true)⟩, [3, 2, 0, 1]),
   (⟨some 94, .call (.f 9) [(.c (.int .i64 1)), (.c (.int .i64 19000000)), (.c (.int .i64 20000))], some (92, true)⟩, [3, 2, 0, 1]),
   (⟨some 95, .eqa false [.int .i64, .int .i64, .int .i64, .int .i64, .int .i64, .int .i64, .int .i64, .bool] (.t 93) (.t 94), some (92, true)⟩, [4, 3, 2, 0, 1, 5]),
   (⟨some 96, .pick (.t 92) (.t 95) (.c (.bool false)), none⟩, [3, 2, 0, 1, 6, 4, 5]),
   (⟨some 97, .mv (.t 96), none⟩, [7, 3, 2, 0, 1, 6, 4, 5]),
   (⟨some 98, .mv (.t 9), some (97, true)⟩, [8, 7, 3, 2, 0, 1, 6, 4, 5]),
   (⟨some 99, .pick (.t 97) (.t 98) (.c (.bool false)), none⟩, [8, 7, 3, 2, 0, 1, 6, 4, 5, 9]),
   (⟨some 100, .mv (.t 99), none⟩, [10, 8, 7, 3, 2, 0, 1, 6, 4, 5, 9]),
   (⟨some 101, .ld 8 true (.t 11), some (100, true)⟩, [11, 10, 8, 7, 3, 2, 0, 1, 6, 4, 5, 9]),
   (⟨some 102, .call (.f 9) [(.c (.int .i64 0)), (.c (.int .i64 0)), (.c (.int .i64 0))], some (100, true)⟩, [11, 10, 8, 7, 3, 2, 0, 1, 6, 4, 5, 9]),
   (⟨some 103, .eqa false [.int .i64, .int .i64, .int .i64, .int .i64, .int .i64, .int .i64, .int .i64, .bool] (.t 101) (.t 102), some (100, true)⟩, [12, 11, 10, 8, 7, 3, 2, 0, 1, 6, 4, 5, 9, 13]),
   (⟨some 104, .pick (.t 100) (.t 103) (.c (.bool false)), none⟩, [11, 10, 8, 7, 3, 2, 0, 1, 6, 4, 5, 9, 14, 12, 13]),
   (⟨some 105, .mv (.t 104), none⟩, [15, 11, 10, 8, 7, 3, 2, 0, 1, 6, 4, 5, 9, 14, 12, 13]),
   (⟨some 106, .ld 8 true (.t 12), some (105, true)⟩, [16, 15, 11, 10, 8, 7, 3, 2, 0, 1, 6, 4, 5, 9, 14, 12, 13]),
   (⟨some 107, .ld 8 true (.t 2), some (105, true)⟩, [16, 15, 11, 10, 8, 7, 3, 2, 0, 1, 6, 4, 5, 9, 14, 12, 13]),
   (⟨some 108, .eqa false [.int .i64, .int .i64, .int .i64, .int .i64, .int .i64, .int .i64, .int .i64, .bool] (.t 106) (.t 107), some (105, true)⟩, [17, 16, 15, 11, 10, 8, 7, 3, 2, 0, 1, 6, 4, 5, 9, 14, 12, 13, 18]),
   (⟨some 109, .pick (.t 105) (.t 108) (.c (.bool false)), none⟩, [16, 15, 11, 10, 8, 7, 3, 2, 0, 1, 6, 4, 5, 9, 14, 12, 13, 19, 17, 18]),
   (⟨some 110, .mv (.t 109), none⟩, [20, 16, 15, 11, 10, 8, 7, 3, 2, 0, 1, 6, 4, 5, 9, 14, 12, 13, 19, 17, 18]),
   (⟨some 111, .mv (.t 13), some (110, true)⟩, [21, 20, 16, 15, 11, 10, 8, 7, 3, 2, 0, 1, 6, 4, 5, 9, 14, 12, 13, 19, 17, 18]),
   (⟨some 112, .not (.t 111), some (110, true)⟩, [22, 21, 20, 16, 15, 11, 10, 8, 7, 3, 2, 0, 1, 6, 4, 5, 9, 14, 12, 13, 19, 17, 18]),
   (⟨some 113, .pick (.t 110) (.t 112) (.c (.bool false)), none⟩, [21, 20, 16, 15, 11, 10, 8, 7, 3, 2, 0, 1, 6, 4, 5, 9, 14, 12, 13, 19, 17, 18, 23, 22]),
   (⟨some 26, .mv (.t 113), none⟩, [24, 21, 20, 16, 15, 11, 10, 8, 7, 3, 2, 0, 1, 6, 4, 5, 9, 14, 12, 13, 19, 17, 18, 23, 22])])
 (.seq (.reg [
   ⟨some 114, .mv (.c (.bool true)), none⟩,
   ⟨some 115, .call (.f 5) [], some (114, true)⟩,
   ⟨some 116, .pick (.t 114) (.t 115) (.c (.bool false)), none⟩,
   ⟨some 117, .mv (.t 116), none⟩,
   ⟨some 118, .mv (.t 3), some (117, true)⟩,
   ⟨some 119, .not (.t 118), some (117, true)⟩,
   ⟨some 120, .pick (.t 117) (.t 119) (.c (.bool false)), none⟩,
   ⟨some 121, .mv (.t 120), none⟩,
   ⟨some 122, .mv (.t 5), some (121, true)⟩,
   ⟨some 123, .not (.t 122), some (121, true)⟩,
   ⟨some 124, .pick (.t 121) (.t 123) (.c (.bool false)), none⟩,
   ⟨some 125, .mv (.t 124), none⟩,
   ⟨some 126, .mv (.t 26), some (125, true)⟩,
   ⟨some 127, .pick (.t 125) (.t 126) (.c (.bool false)), none⟩,
   ⟨some 128, .mv (.t 127), none⟩,
   ⟨some 129, .mv (.t 16), some (128, true)⟩,
   ⟨some 130, .pick (.t 128) (.t 129) (.c (.bool false)), none⟩,
   ⟨some 131, .mv (.t 130), none⟩,
   ⟨some 132, .mv (.t 18), some (131, true)⟩,
   ⟨some 133, .not (.t 132), some (131, true)⟩,
   ⟨some 134, .pick (.t 131) (.t 133) (.c (.bool false)), none⟩,
   ⟨some 135, .mv (.t 134), none⟩,
   ⟨some 136, .mv (.t 20), some (135, true)⟩,
   ⟨some 137, .pick (.t 135) (.t 136) (.c (.bool false)), none⟩,
   ⟨some 138, .mv (.t 137), none⟩,
   ⟨some 139, .mv (.t 22), some (138, true)⟩,
   ⟨some 140, .bin .eql (.t 139) (.c (.int .i64 2)), some (138, true)⟩,
   ⟨some 141, .pick (.t 138) (.t 140) (.c (.bool false)), none⟩,
   ⟨some 142, .mv (.t 141), none⟩,
   ⟨some 143, .mv (.t 23), some (142, true)⟩,
   ⟨some 144, .bin .eql (.t 143) (.c (.int .i64 2)), some (142, true)⟩,
   ⟨some 145, .pick (.t 142) (.t 144) (.c (.bool false)), none⟩,
   ⟨some 146, .mv (.t 145), none⟩,
   ⟨some 147, .mv (.t 25), some (146, true)⟩,
   ⟨some 148, .bin .eql (.t 147) (.c (.int .i64 3)), some (146, true)⟩,
   ⟨some 149, .pick (.t 146) (.t 148) (.c (.bool false)), none⟩,
   ⟨some 0, .mv (.t 149), none⟩])
 .ret)))))))))))))))),
  [.tmp 0]⟩
theorem c4 : chkFn Try.prog Try.f4 a4 = true := by kernel_rfl

/-- besom/besomlaw05.alive -/
def a5 : AFn := ⟨0, (.seq (.reg [
   ⟨some 0, .mv (.c (.bool false)), none⟩])
 (.seq (.reg [
   ⟨some 9, .call (.f 9) [(.c (.int .i64 0)), (.c (.int .i64 0)), (.c (.int .i64 20000))], none⟩,
   ⟨some 10, .call (.f 9) [(.c (.int .i64 1)), (.c (.int .i64 19000000)), (.c (.int .i64 0))], none⟩,
   ⟨some 1, .alloc 28 [(.int .i64 0), (.int .i64 0), (.int .i64 0), (.int .i64 0), (.int .i64 0), (.int .i64 0), (.int .i64 0), (.bool false)], none⟩,
   ⟨some 2, .alloc 28 [(.int .i64 0), (.int .i64 0), (.int .i64 0), (.int .i64 0), (.int .i64 0), (.int .i64 0), (.int .i64 0), (.bool false)], none⟩,
   ⟨none, .st 8 (.t 1) (.t 9), none⟩,
   ⟨none, .st 8 (.t 2) (.t 10), none⟩])
 (.seq (.reg [
   ⟨some 12, .ld 8 true (.t 1), none⟩,
   ⟨some 13, .ld 8 true (.t 2), none⟩,
   ⟨some 14, .call (.f 10) [(.t 12), (.t 13)], none⟩,
   ⟨some 11, .mv (.t 14), none⟩,
   ⟨some 15, .ext (.t 11) 0, none⟩,
   ⟨some 16, .ext (.t 11) 1, none⟩,
   ⟨some 3, .mv (.t 15), none⟩,
   ⟨some 4, .mv (.t 16), none⟩])
 (.seq (.reg [
   ⟨some 18, .ld 8 true (.t 1), none⟩,
   ⟨some 19, .ld 8 true (.t 2), none⟩,
   ⟨some 20, .call (.f 6) [(.t 18), (.t 19), (.c (.int .i64 800))], none⟩,
   ⟨some 17, .mv (.t 20), none⟩,
   ⟨some 21, .ext (.t 17) 0, none⟩,
   ⟨some 22, .ext (.t 17) 1, none⟩,
   ⟨some 23, .ext (.t 17) 2, none⟩,
   ⟨some 24, .ext (.t 17) 3, none⟩,
   ⟨some 5, .alloc 28 [(.int .i64 0), (.int .i64 0), (.int .i64 0), (.int .i64 0), (.int .i64 0), (.int .i64 0), (.int .i64 0), (.bool false)], none⟩,
   ⟨some 6, .alloc 28 [(.int .i64 0), (.int .i64 0), (.int .i64 0), (.int .i64 0), (.int .i64 0), (.int .i64 0), (.int .i64 0), (.bool false)], none⟩,
   ⟨none, .st 8 (.t 5) (.t 21), none⟩,
   ⟨none, .st 8 (.t 6) (.t 22), none⟩,
   ⟨some 7, .mv (.t 23), none⟩,
   ⟨some 8, .mv (.t 24), none⟩])
 (.seq (.drw [
   (⟨some 25, .mv (.t 3), none⟩, []),
   (⟨some 26, .mv (.t 25), none⟩, [0]),
   (⟨some 27, .mv (.t 4), some (26, true)⟩, [1, 0]),
   (⟨some 28, .bin .eql (.t 27) (.c (.int .i64 0)), some (26, true)⟩, [2, 1, 0]),
   (⟨some 29, .pick (.t 26) (.t 28) (.c (.bool false)), none⟩, [1, 0, 3, 2]),
   (⟨some 30, .mv (.t 29), none⟩, [4, 1, 0, 3, 2]),
   (⟨some 31, .mv (.t 7), some (30, true)⟩, [5, 4, 1, 0, 3, 2]),
   (⟨some 32, .pick (.t 30) (.t 31) (.c (.bool false)), none⟩, [5, 4, 1, 0, 3, 2, 6]),
   (⟨some 33, .mv (.t 32), none⟩, [7, 5, 4, 1, 0, 3, 2, 6]),
   (⟨some 34, .mv (.t 8), some (33, true)⟩, [8, 7, 5, 4, 1, 0, 3, 2, 6]),
   (⟨some 35, .bin .eql (.t 34) (.c (.int .i64 0)), some (33, true)⟩, [9, 8, 7, 5, 4, 1, 0, 3, 2, 6]),
   (⟨some 36, .pick (.t 33) (.t 35) (.c (.bool false)), none⟩, [8, 7, 5, 4, 1, 0, 3, 2, 6, 10, 9]),
   (⟨some 37, .mv (.t 36), none⟩, [11, 8, 7, 5, 4, 1, 0, 3, 2, 6, 10, 9]),
   (⟨some 38, .ld 8 true (.t 5), some (37, true)⟩, [12, 11, 8, 7, 5, 4, 1, 0, 3, 2, 6, 10, 9]),
   (⟨some 39, .call (.f 9) [(.c (.int .i64 0)), (.c (.int .i64 0)), (.c (.int .i64 2000))], some (37, true)⟩, [12, 11, 8, 7, 5, 4, 1, 0, 3, 2, 6, 10, 9]),
   (⟨some 40, .eqa false [.int .i64, .int .i64, .int .i64, .int .i64, .int .i64, .int .i64, .int .i64, .bool] (.t 38) (.t 39), some (37, true)⟩, [13, 12, 11, 8, 7, 5, 4, 1, 0, 3, 2, 6, 10, 9, 14]),
   (⟨some 41, .pick (.t 37) (.t 40) (.c (.bool false)), none⟩, [12, 11, 8, 7, 5, 4, 1, 0, 3, 2, 6, 10, 9, 15, 13, 14]),
   (⟨some 42, .mv (.t 41), none⟩, [16, 12, 11, 8, 7, 5, 4, 1, 0, 3, 2, 6, 10, 9, 15, 13, 14]),
   (⟨some 43, .ld 8 true (.t 6), some (42, true)⟩, [17, 16, 12, 11, 8, 7, 5, 4, 1, 0, 3, 2, 6, 10, 9, 15, 13, 14]),
   (⟨some 44, .call (.f 9) [(.c (.int .i64 1)), (.c (.int .i64 19000000)), (.c (.int .i64 18000))], some (42, true)⟩, [17, 16, 12, 11, 8, 7, 5, 4, 1, 0, 3, 2, 6, 10, 9, 15, 13, 14]),
   (⟨some 45, .eqa false [.int .i64, .int .i64, .int .i64, .int .i64, .int .i64, .int .i64, .int .i64, .bool] (.t 43) (.t 44), some (42, true)⟩, [18, 17, 16, 12, 11, 8, 7, 5, 4, 1, 0, 3, 2, 6, 10, 9, 15, 13, 14, 19]),
   (⟨some 46, .pick (.t 42) (.t 45) (.c (.bool false)), none⟩, [17, 16, 12, 11, 8, 7, 5, 4, 1, 0, 3, 2, 6, 10, 9, 15, 13, 14, 20, 18, 19]),
   (⟨some 0, .mv (.t 46), none⟩, [21, 17, 16, 12, 11, 8, 7, 5, 4, 1, 0, 3, 2, 6, 10, 9, 15, 13, 14, 20, 18, 19])])
 .ret))))),
  [.tmp 0]⟩
theorem c5 : chkFn Try.prog Try.f5 a5 = true := by kernel_rfl

/-- besom/contact.Meet -/
def a6 : AFn := ⟨3, (.seq (.reg [
   ⟨some 3, .box 28 (.t 0), none⟩,
   ⟨some 4, .box 28 (.t 1), none⟩,
   ⟨some 5, .box 3 (.t 2), none⟩,
   ⟨some 6, .alloc 28 [(.int .i64 0), (.int .i64 0), (.int .i64 0), (.int .i64 0), (.int .i64 0), (.int .i64 0), (.int .i64 0), (.bool false)], none⟩,
   ⟨some 7, .alloc 28 [(.int .i64 0), (.int .i64 0), (.int .i64 0), (.int .i64 0), (.int .i64 0), (.int .i64 0), (.int .i64 0), (.bool false)], none⟩,
   ⟨some 8, .mv (.c (.bool false)), none⟩,
   ⟨some 9, .mv (.c (.int .i64 0)), none⟩])
 (.seq (.drw [
   (⟨some 14, .ld 8 true (.t 3), none⟩, []),
   (⟨some 15, .bld [(.int .i64 0), (.int .i64 0), (.int .i64 0), (.int .i64 0), (.int .i64 0), (.int .i64 0), (.int .i64 0), (.bool false)] [(0, 8, (.t 14))], none⟩, [0]),
   (⟨some 16, .ld 8 true (.t 4), none⟩, []),
   (⟨some 17, .bld [(.int .i64 0), (.int .i64 0), (.int .i64 0), (.int .i64 0), (.int .i64 0), (.int .i64 0), (.int .i64 0), (.bool false)] [(0, 8, (.t 16))], none⟩, [2]),
   (⟨some 10, .alloc 48 [(.int .i64 0), (.int .i64 0), (.int .i64 0), (.int .i64 0), (.int .i64 0), (.int .i64 0), (.int .i64 0), (.bool false)], none⟩, []),
   (⟨some 11, .alloc 48 [(.int .i64 0), (.int .i64 0), (.int .i64 0), (.int .i64 0), (.int .i64 0), (.int .i64 0), (.int .i64 0), (.bool false)], none⟩, []),
   (⟨none, .st 8 (.t 10) (.t 15), none⟩, [4, 1, 0, 5]),
   (⟨none, .st 8 (.t 11) (.t 17), none⟩, [5, 3, 2, 6, 4, 1, 0])])
 (.seq (.seq (.reg [
   ⟨some 18, .ld 8 true (.t 10), none⟩,
   ⟨some 19, .call (.f 14) [(.t 18)], none⟩,
   ⟨some 20, .not (.t 19), none⟩,
   ⟨some 21, .mv (.t 20), none⟩,
   ⟨some 22, .ld 8 true (.t 11), some (21, false)⟩,
   ⟨some 23, .call (.f 14) [(.t 22)], some (21, false)⟩,
   ⟨some 24, .not (.t 23), some (21, false)⟩,
   ⟨some 25, .pick (.t 21) (.c (.bool true)) (.t 24), none⟩,
   ⟨some 26, .mv (.t 25), none⟩,
   ⟨some 27, .ld 1 false (.t 5), some (26, false)⟩,
   ⟨some 28, .call (.f 15) [(.t 27), (.c (.int .i64 0)), (.c (.int .i64 1000))], some (26, false)⟩,
   ⟨some 29, .not (.t 28), some (26, false)⟩,
   ⟨some 30, .pick (.t 26) (.c (.bool true)) (.t 29), none⟩])
 (.cond (.t 30) (.seq (.reg [
    ⟨some 31, .bld [(.int .i64 0), (.int .i64 0), (.int .i64 0), (.int .i64 0), (.int .i64 0), (.int .i64 0), (.int .i64 0), (.bool false)] [], none⟩,
    ⟨some 32, .bld [(.int .i64 0), (.int .i64 0), (.int .i64 0), (.int .i64 0), (.int .i64 0), (.int .i64 0), (.int .i64 0), (.bool false)] [], none⟩,
    ⟨none, .st 8 (.t 6) (.t 31), none⟩,
    ⟨none, .st 8 (.t 7) (.t 32), none⟩,
    ⟨some 8, .mv (.c (.bool false)), none⟩,
    ⟨some 9, .mv (.c (.int .i64 2)), none⟩])
  .ret)
 .skip))
 (.seq (.reg [
   ⟨some 12, .alloc 4 [(.bool false)], none⟩,
   ⟨none, .st 1 (.t 12) (.c (.bool false)), none⟩])
 (.seq (.reg [
   ⟨some 33, .mkf 17 [] [(.t 10), (.t 11), (.t 5), (.t 12)], none⟩,
   ⟨some 34, .call (.f 16) [(.t 33)], none⟩,
   ⟨some 13, .mv (.t 34), none⟩])
 (.seq (.seq (.reg [
   ⟨some 35, .mv (.t 13), none⟩,
   ⟨some 36, .bin .neq (.t 35) (.c (.int .i64 0)), none⟩])
 (.cond (.t 36) (.seq (.reg [
    ⟨some 37, .bld [(.int .i64 0), (.int .i64 0), (.int .i64 0), (.int .i64 0), (.int .i64 0), (.int .i64 0), (.int .i64 0), (.bool false)] [], none⟩,
    ⟨some 38, .bld [(.int .i64 0), (.int .i64 0), (.int .i64 0), (.int .i64 0), (.int .i64 0), (.int .i64 0), (.int .i64 0), (.bool false)] [], none⟩,
    ⟨some 39, .mv (.t 13), none⟩,
    ⟨none, .st 8 (.t 6) (.t 37), none⟩,
    ⟨none, .st 8 (.t 7) (.t 38), none⟩,
    ⟨some 8, .mv (.c (.bool false)), none⟩,
    ⟨some 9, .mv (.t 39), none⟩])
  .ret)
 .skip))
 (.seq (.drw [
   (⟨some 40, .fa (.t 10) 0, none⟩, []),
   (⟨some 41, .ld 8 true (.t 40), none⟩, [0]),
   (⟨some 42, .fa (.t 11) 0, none⟩, []),
   (⟨some 43, .ld 8 true (.t 42), none⟩, [2]),
   (⟨some 44, .ld 1 false (.t 12), none⟩, []),
   (⟨none, .st 8 (.t 6) (.t 41), none⟩, [1, 0]),
   (⟨none, .st 8 (.t 7) (.t 43), none⟩, [3, 2, 5, 1, 0]),
   (⟨some 8, .mv (.t 44), none⟩, [4, 6, 3, 2, 5, 1, 0]),
   (⟨some 9, .mv (.c (.int .i64 0)), none⟩, [7, 4, 6, 3, 2, 5, 1, 0])])
 .ret))))))),
  [.cell 6 8 true, .cell 7 8 true, .tmp 8, .tmp 9]⟩
theorem c6 : chkFn Try.prog Try.f6 a6 = true := by kernel_rfl

/-- besom/besomlaw05.energy -/
def a7 : AFn := ⟨2, (.seq (.reg [
   ⟨some 2, .box 28 (.t 0), none⟩,
   ⟨some 3, .box 28 (.t 1), none⟩,
   ⟨some 4, .mv (.c (.int .u64 0)), none⟩,
   ⟨some 5, .mv (.c (.int .u64 0)), none⟩])
 (.seq (.reg [
   ⟨some 6, .mv (.c (.int .u64 0)), none⟩,
   ⟨some 7, .mv (.c (.int .u64 0)), none⟩])
 (.seq (.seq (.reg [
   ⟨some 15, .fa (.t 2) 2, none⟩,
   ⟨some 16, .fa (.t 15) 2, none⟩,
   ⟨some 17, .fa (.t 16) 0, none⟩,
   ⟨some 18, .ld 1 false (.t 17), none⟩,
   ⟨some 19, .fa (.t 2) 2, none⟩,
   ⟨some 20, .fa (.t 19) 2, none⟩,
   ⟨some 21, .fa (.t 20) 1, none⟩,
   ⟨some 22, .ld 1 false (.t 21), none⟩,
   ⟨some 23, .fa (.t 3) 2, none⟩,
   ⟨some 24, .fa (.t 23) 2, none⟩,
   ⟨some 25, .fa (.t 24) 0, none⟩,
   ⟨some 26, .ld 1 false (.t 25), none⟩,
   ⟨some 27, .fa (.t 3) 2, none⟩,
   ⟨some 28, .fa (.t 27) 2, none⟩,
   ⟨some 29, .fa (.t 28) 1, none⟩,
   ⟨some 30, .ld 1 false (.t 29), none⟩,
   ⟨some 31, .bsl 22 [.int .i64] 4 [(.int .i64 0), (.int .i64 0), (.int .i64 0), (.int .i64 0)] [(0, 1, (.t 18)), (1, 1, (.t 22)), (2, 1, (.t 26)), (3, 1, (.t 30))], none⟩,
   ⟨some 32, .len (.t 31), none⟩,
   ⟨some 33, .mv (.c (.int .i64 0)), none⟩])
 (.blk 0 (.loop 0 (.seq (.reg [
    ⟨some 34, .bin .lss (.t 33) (.t 32), none⟩])
  (.seq (.cond (.t 34) .skip
  (.exit 0))
  (.seq (.blk 1 (.seq (.reg [
    ⟨some 35, .ia (.t 31) (.t 33) 1, none⟩,
    ⟨some 36, .ld 1 false (.t 35), none⟩,
    ⟨some 9, .mv (.t 36), none⟩])
  (.seq (.reg [
    ⟨some 37, .mv (.t 9), none⟩,
    ⟨some 38, .mv (.t 9), none⟩,
    ⟨some 39, .neg (.t 38), none⟩,
    ⟨some 40, .mx false (.t 37) (.t 39), none⟩,
    ⟨some 41, .cv .u64 (.t 40), none⟩,
    ⟨some 10, .mv (.t 41), none⟩])
  (.seq (.reg [
    ⟨some 43, .mv (.t 10), none⟩,
    ⟨some 44, .mv (.t 10), none⟩,
    ⟨some 45, .call (.f 20) [(.t 43), (.t 44)], none⟩,
    ⟨some 42, .mv (.t 45), none⟩,
    ⟨some 46, .ext (.t 42) 0, none⟩,
    ⟨some 47, .ext (.t 42) 1, none⟩,
    ⟨some 11, .mv (.t 46), none⟩,
    ⟨some 12, .mv (.t 47), none⟩])
  (.seq (.reg [
    ⟨some 49, .mv (.t 7), none⟩,
    ⟨some 50, .mv (.t 12), none⟩,
    ⟨some 51, .call (.f 8) [(.t 49), (.t 50), (.c (.int .u64 0))], none⟩,
    ⟨some 48, .mv (.t 51), none⟩,
    ⟨some 52, .ext (.t 48) 0, none⟩,
    ⟨some 53, .ext (.t 48) 1, none⟩,
    ⟨some 13, .mv (.t 52), none⟩,
    ⟨some 14, .mv (.t 53), none⟩])
  (.seq (.reg [
    ⟨some 54, .mv (.t 13), none⟩,
    ⟨some 7, .mv (.t 54), none⟩])
  (.reg [
    ⟨some 56, .mv (.t 6), none⟩,
    ⟨some 57, .mv (.t 11), none⟩,
    ⟨some 58, .mv (.t 14), none⟩,
    ⟨some 59, .call (.f 8) [(.t 56), (.t 57), (.t 58)], none⟩,
    ⟨some 55, .mv (.t 59), none⟩,
    ⟨some 60, .ext (.t 55) 0, none⟩,
    ⟨some 61, .ext (.t 55) 1, none⟩,
    ⟨some 6, .mv (.t 60), none⟩])))))))
  (.reg [
    ⟨some 62, .bin .add (.t 33) (.c (.int .i64 1)), none⟩,
    ⟨some 33, .mv (.t 62), none⟩])))))))
 (.seq (.reg [
   ⟨some 63, .mv (.t 6), none⟩,
   ⟨some 64, .mv (.t 7), none⟩,
   ⟨some 4, .mv (.t 63), none⟩,
   ⟨some 5, .mv (.t 64), none⟩])
 .ret)))),
  [.tmp 4, .tmp 5]⟩
theorem c7 : chkFn Try.prog Try.f7 a7 = true := by kernel_rfl

/-- besom/besomlaw05.body -/
def a9 : AFn := ⟨3, (.seq (.reg [
   ⟨some 6, .alloc 28 [(.int .i64 0), (.int .i64 0), (.int .i64 0), (.int .i64 0), (.int .i64 0), (.int .i64 0), (.int .i64 0), (.bool false)], none⟩])
 (.seq (.reg [
   ⟨some 7, .mv (.t 0), none⟩,
   ⟨some 8, .mv (.t 1), none⟩,
   ⟨some 9, .bld [(.int .i64 0), (.int .i64 0)] [(1, 1, (.t 8))], none⟩,
   ⟨some 10, .mv (.t 2), none⟩,
   ⟨some 11, .bld [(.int .i64 0), (.int .i64 0)] [(1, 1, (.t 10))], none⟩,
   ⟨some 12, .bld [(.int .i64 0), (.int .i64 0), (.int .i64 0), (.int .i64 0), (.int .i64 0)] [(0, 2, (.t 9)), (2, 2, (.t 11))], none⟩,
   ⟨some 13, .bld [(.int .i64 0), (.int .i64 0), (.int .i64 0), (.int .i64 0), (.int .i64 0), (.int .i64 0), (.int .i64 0), (.bool false)] [(0, 1, (.t 7)), (2, 5, (.t 12))], none⟩,
   ⟨none, .st 8 (.t 6) (.t 13), none⟩])
 .ret)),
  [.cell 6 8 true]⟩
theorem c9 : chkFn Try.prog Try.f9 a9 = true := by kernel_rfl

/-- besom/contact.Touch -/
def a10 : AFn := ⟨2, (.seq (.reg [
   ⟨some 2, .box 28 (.t 0), none⟩,
   ⟨some 3, .box 28 (.t 1), none⟩,
   ⟨some 4, .mv (.c (.bool false)), none⟩,
   ⟨some 5, .mv (.c (.int .i64 0)), none⟩])
 (.seq (.drw [
   (⟨some 8, .ld 8 true (.t 2), none⟩, []),
   (⟨some 9, .bld [(.int .i64 0), (.int .i64 0), (.int .i64 0), (.int .i64 0), (.int .i64 0), (.int .i64 0), (.int .i64 0), (.bool false)] [(0, 8, (.t 8))], none⟩, [0]),
   (⟨some 10, .ld 8 true (.t 3), none⟩, []),
   (⟨some 11, .bld [(.int .i64 0), (.int .i64 0), (.int .i64 0), (.int .i64 0), (.int .i64 0), (.int .i64 0), (.int .i64 0), (.bool false)] [(0, 8, (.t 10))], none⟩, [2]),
   (⟨some 6, .alloc 48 [(.int .i64 0), (.int .i64 0), (.int .i64 0), (.int .i64 0), (.int .i64 0), (.int .i64 0), (.int .i64 0), (.bool false)], none⟩, []),
   (⟨some 7, .alloc 48 [(.int .i64 0), (.int .i64 0), (.int .i64 0), (.int .i64 0), (.int .i64 0), (.int .i64 0), (.int .i64 0), (.bool false)], none⟩, []),
   (⟨none, .st 8 (.t 6) (.t 9), none⟩, [4, 1, 0, 5]),
   (⟨none, .st 8 (.t 7) (.t 11), none⟩, [5, 3, 2, 6, 4, 1, 0])])
 (.seq (.seq (.reg [
   ⟨some 12, .ld 8 true (.t 6), none⟩,
   ⟨some 13, .call (.f 14) [(.t 12)], none⟩,
   ⟨some 14, .not (.t 13), none⟩,
   ⟨some 15, .mv (.t 14), none⟩,
   ⟨some 16, .ld 8 true (.t 7), some (15, false)⟩,
   ⟨some 17, .call (.f 14) [(.t 16)], some (15, false)⟩,
   ⟨some 18, .not (.t 17), some (15, false)⟩,
   ⟨some 19, .pick (.t 15) (.c (.bool true)) (.t 18), none⟩])
 (.cond (.t 19) (.seq (.reg [
    ⟨some 4, .mv (.c (.bool false)), none⟩,
    ⟨some 5, .mv (.c (.int .i64 2)), none⟩])
  .ret)
 .skip))
 (.seq (.reg [
   ⟨some 20, .ld 8 true (.t 6), none⟩,
   ⟨some 21, .ld 8 true (.t 7), none⟩,
   ⟨some 22, .call (.f 18) [(.t 20), (.t 21)], none⟩,
   ⟨some 4, .mv (.t 22), none⟩,
   ⟨some 5, .mv (.c (.int .i64 0)), none⟩])
 .ret)))),
  [.tmp 4, .tmp 5]⟩
theorem c10 : chkFn Try.prog Try.f10 a10 = true := by kernel_rfl

/-- besom/contact.Gone -/
def a11 : AFn := ⟨1, (.seq (.reg [
   ⟨some 1, .box 28 (.t 0), none⟩,
   ⟨some 2, .mv (.c (.bool false)), none⟩,
   ⟨some 3, .mv (.c (.int .i64 0)), none⟩])
 (.seq (.reg [
   ⟨some 5, .ld 8 true (.t 1), none⟩,
   ⟨some 6, .bld [(.int .i64 0), (.int .i64 0), (.int .i64 0), (.int .i64 0), (.int .i64 0), (.int .i64 0), (.int .i64 0), (.bool false)] [(0, 8, (.t 5))], none⟩,
   ⟨some 4, .alloc 48 [(.int .i64 0), (.int .i64 0), (.int .i64 0), (.int .i64 0), (.int .i64 0), (.int .i64 0), (.int .i64 0), (.bool false)], none⟩,
   ⟨none, .st 8 (.t 4) (.t 6), none⟩])
 (.seq (.seq (.reg [
   ⟨some 7, .ld 8 true (.t 4), none⟩,
   ⟨some 8, .call (.f 14) [(.t 7)], none⟩,
   ⟨some 9, .not (.t 8), none⟩])
 (.cond (.t 9) (.seq (.reg [
    ⟨some 2, .mv (.c (.bool false)), none⟩,
    ⟨some 3, .mv (.c (.int .i64 2)), none⟩])
  .ret)
 .skip))
 (.seq (.reg [
   ⟨some 10, .ld 8 true (.t 4), none⟩,
   ⟨some 11, .call (.f 21) [(.t 10)], none⟩,
   ⟨some 2, .mv (.t 11), none⟩,
   ⟨some 3, .mv (.c (.int .i64 0)), none⟩])
 .ret)))),
  [.tmp 2, .tmp 3]⟩
theorem c11 : chkFn Try.prog Try.f11 a11 = true := by kernel_rfl

/-- besom/contact.Check -/
def a12 : AFn := ⟨1, (.seq (.reg [
   ⟨some 2, .mv (.c (.int .i64 0)), none⟩])
 (.seq (.seq (.reg [
   ⟨some 7, .mv (.t 0), none⟩,
   ⟨some 8, .len (.t 7), none⟩,
   ⟨some 9, .bin .gtr (.t 8) (.c (.int .i64 16)), none⟩])
 (.cond (.t 9) (.seq (.reg [
    ⟨some 2, .mv (.c (.int .i64 2)), none⟩])
  .ret)
 .skip))
 (.seq (.reg [
   ⟨some 10, .mkm true [.int .i64, .int .i64] false [.bool], none⟩,
   ⟨some 3, .mv (.t 10), none⟩])
 (.seq (.seq (.reg [
   ⟨some 11, .mv (.t 0), none⟩,
   ⟨some 12, .len (.t 11), none⟩,
   ⟨some 13, .mv (.c (.int .i64 0)), none⟩])
 (.blk 0 (.loop 0 (.seq (.reg [
    ⟨some 14, .bin .lss (.t 13) (.t 12), none⟩])
  (.seq (.cond (.t 14) .skip
  (.exit 0))
  (.seq (.blk 1 (.seq (.reg [
    ⟨some 15, .ia (.t 11) (.t 13) 8, none⟩,
    ⟨some 16, .ld 8 true (.t 15), none⟩,
    ⟨some 5, .alloc 28 [(.int .i64 0), (.int .i64 0), (.int .i64 0), (.int .i64 0), (.int .i64 0), (.int .i64 0), (.int .i64 0), (.bool false)], none⟩,
    ⟨none, .st 8 (.t 5) (.t 16), none⟩])
  (.seq (.reg [
    ⟨some 17, .ld 8 true (.t 5), none⟩,
    ⟨some 18, .bld [(.int .i64 0), (.int .i64 0), (.int .i64 0), (.int .i64 0), (.int .i64 0), (.int .i64 0), (.int .i64 0), (.bool false)] [(0, 8, (.t 17))], none⟩,
    ⟨some 6, .alloc 48 [(.int .i64 0), (.int .i64 0), (.int .i64 0), (.int .i64 0), (.int .i64 0), (.int .i64 0), (.int .i64 0), (.bool false)], none⟩,
    ⟨none, .st 8 (.t 6) (.t 18), none⟩])
  (.seq (.seq (.reg [
    ⟨some 19, .ld 8 true (.t 6), none⟩,
    ⟨some 20, .call (.f 14) [(.t 19)], none⟩,
    ⟨some 21, .not (.t 20), none⟩,
    ⟨some 22, .mv (.t 21), none⟩,
    ⟨some 23, .mv (.t 3), some (22, false)⟩,
    ⟨some 24, .fa (.t 6) 0, some (22, false)⟩,
    ⟨some 25, .fa (.t 24) 0, some (22, false)⟩,
    ⟨some 26, .ld 1 false (.t 25), some (22, false)⟩,
    ⟨some 27, .fa (.t 6) 0, some (22, false)⟩,
    ⟨some 28, .fa (.t 27) 1, some (22, false)⟩,
    ⟨some 29, .ld 1 false (.t 28), some (22, false)⟩,
    ⟨some 30, .bld [(.int .i64 0), (.int .i64 0)] [(0, 1, (.t 26)), (1, 1, (.t 29))], some (22, false)⟩,
    ⟨some 31, .mlk true [.int .i64, .int .i64] false [.bool] false (.t 23) (.t 30), some (22, false)⟩,
    ⟨some 32, .pick (.t 22) (.c (.bool true)) (.t 31), none⟩,
    ⟨some 33, .mv (.t 32), none⟩,
    ⟨some 34, .fa (.t 6) 0, some (33, false)⟩,
    ⟨some 35, .fa (.t 34) 7, some (33, false)⟩,
    ⟨some 36, .ld 1 false (.t 35), some (33, false)⟩,
    ⟨some 37, .mv (.t 36), some (33, false)⟩,
    ⟨some 38, .ld 8 true (.t 6), some (37, true)⟩,
    ⟨some 39, .call (.f 22) [(.t 38)], some (37, true)⟩,
    ⟨some 40, .not (.t 39), some (37, true)⟩,
    ⟨some 41, .mv (.t 40), some (37, true)⟩,
    ⟨some 42, .fa (.t 6) 0, some (41, false)⟩,
    ⟨some 43, .fa (.t 42) 2, some (41, false)⟩,
    ⟨some 44, .fa (.t 43) 4, some (41, false)⟩,
    ⟨some 45, .ld 1 false (.t 44), some (41, false)⟩,
    ⟨some 46, .bin .neq (.t 45) (.c (.int .i64 0)), some (41, false)⟩,
    ⟨some 47, .pick (.t 41) (.c (.bool true)) (.t 46), some (37, true)⟩,
    ⟨some 48, .pick (.t 37) (.t 47) (.c (.bool false)), some (33, false)⟩,
    ⟨some 49, .pick (.t 33) (.c (.bool true)) (.t 48), none⟩])
  (.cond (.t 49) (.seq (.reg [
     ⟨some 2, .mv (.c (.int .i64 2)), none⟩])
   .ret)
  .skip))
  (.reg [
    ⟨some 50, .mv (.t 3), none⟩,
    ⟨some 51, .fa (.t 6) 0, none⟩,
    ⟨some 52, .fa (.t 51) 0, none⟩,
    ⟨some 53, .ld 1 false (.t 52), none⟩,
    ⟨some 54, .fa (.t 6) 0, none⟩,
    ⟨some 55, .fa (.t 54) 1, none⟩,
    ⟨some 56, .ld 1 false (.t 55), none⟩,
    ⟨some 57, .bld [(.int .i64 0), (.int .i64 0)] [(0, 1, (.t 53)), (1, 1, (.t 56))], none⟩,
    ⟨none, .mup true [.int .i64, .int .i64] false [.bool] (.t 50) (.t 57) (.c (.bool true)), none⟩])))))
  (.reg [
    ⟨some 58, .bin .add (.t 13) (.c (.int .i64 1)), none⟩,
    ⟨some 13, .mv (.t 58), none⟩])))))))
 (.seq (.reg [
   ⟨some 2, .mv (.c (.int .i64 0)), none⟩])
 .ret))))),
  [.tmp 2]⟩
theorem c12 : chkFn Try.prog Try.f12 a12 = true := by kernel_rfl

/-- besom/contact.Place -/
def a13 : AFn := ⟨1, (.seq (.reg [
   ⟨some 2, .mvn 28 [.int .i64, .int .i64, .int .i64, .int .i64, .int .i64, .int .i64, .int .i64, .bool], none⟩,
   ⟨some 3, .mv (.c (.int .i64 0)), none⟩])
 (.seq (.seq (.reg [
   ⟨some 8, .mv (.t 0), none⟩,
   ⟨some 9, .len (.t 8), none⟩,
   ⟨some 10, .bin .gtr (.t 9) (.c (.int .i64 16)), none⟩])
 (.cond (.t 10) (.seq (.reg [
    ⟨some 2, .mvn 28 [.int .i64, .int .i64, .int .i64, .int .i64, .int .i64, .int .i64, .int .i64, .bool], none⟩,
    ⟨some 3, .mv (.c (.int .i64 3)), none⟩])
  .ret)
 .skip))
 (.seq (.reg [
   ⟨some 4, .mvn 28 [.int .i64, .int .i64, .int .i64, .int .i64, .int .i64, .int .i64, .int .i64, .bool], none⟩])
 (.seq (.seq (.reg [
   ⟨some 11, .mv (.t 0), none⟩,
   ⟨some 12, .len (.t 11), none⟩,
   ⟨some 13, .mv (.c (.int .i64 0)), none⟩])
 (.blk 0 (.loop 0 (.seq (.reg [
    ⟨some 14, .bin .lss (.t 13) (.t 12), none⟩])
  (.seq (.cond (.t 14) .skip
  (.exit 0))
  (.seq (.blk 1 (.seq (.reg [
    ⟨some 15, .ia (.t 11) (.t 13) 4, none⟩,
    ⟨some 16, .ld 4 true (.t 15), none⟩,
    ⟨some 6, .alloc 59 [(.int .i64 0), (.int .i64 0), (.int .i64 0), (.int .i64 0)], none⟩,
    ⟨none, .st 4 (.t 6) (.t 16), none⟩])
  (.reg [
    ⟨some 17, .mv (.t 4), none⟩,
    ⟨some 18, .fa (.t 6) 0, none⟩,
    ⟨some 19, .ld 1 false (.t 18), none⟩,
    ⟨some 20, .fa (.t 6) 1, none⟩,
    ⟨some 21, .ld 1 false (.t 20), none⟩,
    ⟨some 22, .fa (.t 6) 2, none⟩,
    ⟨some 23, .ld 2 true (.t 22), none⟩,
    ⟨some 24, .bld [(.int .i64 0), (.int .i64 0), (.int .i64 0), (.int .i64 0), (.int .i64 0)] [(0, 2, (.t 23))], none⟩,
    ⟨some 25, .bld [(.int .i64 0), (.int .i64 0), (.int .i64 0), (.int .i64 0), (.int .i64 0), (.int .i64 0), (.int .i64 0), (.bool false)] [(0, 1, (.t 19)), (1, 1, (.t 21)), (2, 5, (.t 24))], none⟩,
    ⟨some 26, .bsl 28 [.int .i64, .int .i64, .int .i64, .int .i64, .int .i64, .int .i64, .int .i64, .bool] 1 [(.int .i64 0), (.int .i64 0), (.int .i64 0), (.int .i64 0), (.int .i64 0), (.int .i64 0), (.int .i64 0), (.bool false)] [(0, 8, (.t 25))], none⟩,
    ⟨some 27, .app 28 [.int .i64, .int .i64, .int .i64, .int .i64, .int .i64, .int .i64, .int .i64, .bool] 64 (.t 17) (.t 26), none⟩,
    ⟨some 4, .mv (.t 27), none⟩])))
  (.reg [
    ⟨some 28, .bin .add (.t 13) (.c (.int .i64 1)), none⟩,
    ⟨some 13, .mv (.t 28), none⟩])))))))
 (.seq (.seq (.reg [
   ⟨some 29, .mv (.t 4), none⟩,
   ⟨some 30, .call (.f 12) [(.t 29)], none⟩,
   ⟨some 7, .mv (.t 30), none⟩])
 (.seq (.reg [
   ⟨some 31, .mv (.t 7), none⟩,
   ⟨some 32, .bin .neq (.t 31) (.c (.int .i64 0)), none⟩])
 (.cond (.t 32) (.seq (.reg [
    ⟨some 33, .mv (.t 7), none⟩,
    ⟨some 2, .mvn 28 [.int .i64, .int .i64, .int .i64, .int .i64, .int .i64, .int .i64, .int .i64, .bool], none⟩,
    ⟨some 3, .mv (.t 33), none⟩])
  .ret)
 .skip)))
 (.seq (.reg [
   ⟨some 34, .mv (.t 4), none⟩,
   ⟨some 2, .mv (.t 34), none⟩,
   ⟨some 3, .mv (.c (.int .i64 0)), none⟩])
 .ret)))))),
  [.tmp 2, .tmp 3]⟩
theorem c13 : chkFn Try.prog Try.f13 a13 = true := by kernel_rfl

/-- (besom/contact.body).valid -/
def a14 : AFn := ⟨1, (.seq (.reg [
   ⟨some 1, .box 48 (.t 0), none⟩,
   ⟨some 2, .mv (.c (.bool false)), none⟩])
 (.seq (.reg [
   ⟨some 3, .fa (.t 1) 0, none⟩,
   ⟨some 4, .fa (.t 3) 0, none⟩,
   ⟨some 5, .ld 1 false (.t 4), none⟩,
   ⟨some 6, .call (.f 15) [(.t 5), (.c (.int .i64 0)), (.c (.int .i64 1))], none⟩,
   ⟨some 7, .mv (.t 6), none⟩,
   ⟨some 8, .fa (.t 1) 0, some (7, true)⟩,
   ⟨some 9, .fa (.t 8) 1, some (7, true)⟩,
   ⟨some 10, .ld 1 false (.t 9), some (7, true)⟩,
   ⟨some 11, .call (.f 15) [(.t 10), (.c (.int .i64 0)), (.c (.int .i64 7))], some (7, true)⟩,
   ⟨some 12, .pick (.t 7) (.t 11) (.c (.bool false)), none⟩,
   ⟨some 13, .mv (.t 12), none⟩,
   ⟨some 14, .fa (.t 1) 0, some (13, true)⟩,
   ⟨some 15, .fa (.t 14) 2, some (13, true)⟩,
   ⟨some 16, .ld 5 true (.t 15), some (13, true)⟩,
   ⟨some 17, .call (.f 23) [(.t 16)], some (13, true)⟩,
   ⟨some 18, .bin .eql (.t 17) (.c (.int .i64 0)), some (13, true)⟩,
   ⟨some 19, .pick (.t 13) (.t 18) (.c (.bool false)), none⟩,
   ⟨some 2, .mv (.t 19), none⟩])
 .ret)),
  [.tmp 2]⟩
theorem c14 : chkFn Try.prog Try.f14 a14 = true := by kernel_rfl

/-- besom/contact.within -/
def a15 : AFn := ⟨3, (.seq (.reg [
   ⟨some 6, .mv (.c (.bool false)), none⟩])
 (.seq (.reg [
   ⟨some 7, .mv (.t 1), none⟩,
   ⟨some 8, .mv (.t 0), none⟩,
   ⟨some 9, .bin .leq (.t 7) (.t 8), none⟩,
   ⟨some 10, .mv (.t 9), none⟩,
   ⟨some 11, .mv (.t 0), some (10, true)⟩,
   ⟨some 12, .mv (.t 2), some (10, true)⟩,
   ⟨some 13, .bin .leq (.t 11) (.t 12), some (10, true)⟩,
   ⟨some 14, .pick (.t 10) (.t 13) (.c (.bool false)), none⟩,
   ⟨some 6, .mv (.t 14), none⟩])
 .ret)),
  [.tmp 6]⟩
theorem c15 : chkFn Try.prog Try.f15 a15 = true := by kernel_rfl

/-- besom/contact.tried -/
def a16 : TFn := ⟨(.reg [
   ⟨some 2, .alloc 30 [(.int .i64 0)], none⟩]), 24, [2], 3,
 (.seq (.reg [
   ⟨some 4, .mv (.t 0), none⟩,
   ⟨some 5, .call (.t 4) [], none⟩])
 (.seq (.reg [
   ⟨none, .st 1 (.t 2) (.c (.int .i64 0)), none⟩])
 .ret)),
  [.cell 2 1 false], 4, 1,
 (.seq (.reg [
   ⟨some 6, .mv (.t 1), none⟩,
   ⟨some 7, .tas 62 [(.int .i64 0)] (.t 6), none⟩,
   ⟨some 5, .mv (.t 7), none⟩,
   ⟨some 8, .ext (.t 5) 0, none⟩,
   ⟨some 9, .ext (.t 5) 1, none⟩,
   ⟨some 2, .alloc 62 [(.int .i64 0)], none⟩,
   ⟨none, .st 1 (.t 2) (.t 8), none⟩,
   ⟨some 3, .mv (.t 9), none⟩])
 (.seq (.reg [
   ⟨some 10, .mv (.t 3), none⟩])
 (.cond (.t 10) (.reg [
    ⟨some 11, .fa (.t 2) 0, none⟩,
    ⟨some 12, .ld 1 false (.t 11), none⟩,
    ⟨none, .st 1 (.t 0) (.t 12), none⟩])
 (.seq (.reg [
    ⟨some 13, .mv (.t 1), none⟩,
    ⟨some 14, .ifn true (.t 13), none⟩])
  (.cond (.t 14) (.reg [
     ⟨some 15, .mv (.t 1), none⟩,
     ⟨none, .pan (.t 15), none⟩])
  .skip)))))⟩
theorem c16 : chkMain Try.prog Try.f16 a16 = true := by kernel_rfl
theorem d16 : chkDef Try.prog Try.f24 a16 = true := by kernel_rfl

/-- besom/contact.Meet$1 -/
def a17 : AFn := ⟨4, (.reg [
   ⟨some 4, .ld 8 true (.t 0), none⟩,
   ⟨some 5, .ld 8 true (.t 1), none⟩,
   ⟨some 6, .call (.f 18) [(.t 4), (.t 5)], none⟩,
   ⟨some 7, .mv (.t 6), none⟩,
   ⟨some 8, .ld 1 false (.t 2), some (7, true)⟩,
   ⟨some 9, .call (.f 19) [(.t 0), (.t 1), (.t 8)], some (7, true)⟩,
   ⟨some 10, .pick (.t 7) (.t 9) (.c (.bool false)), none⟩,
   ⟨none, .st 1 (.t 3) (.t 10), none⟩]),
  []⟩
theorem c17 : chkFn Try.prog Try.f17 a17 = true := by kernel_rfl

/-- (besom/contact.body).touches -/
def a18 : AFn := ⟨2, (.seq (.reg [
   ⟨some 2, .box 48 (.t 0), none⟩,
   ⟨some 3, .box 48 (.t 1), none⟩,
   ⟨some 4, .mv (.c (.bool false)), none⟩])
 (.seq (.reg [
   ⟨some 10, .fa (.t 3) 0, none⟩,
   ⟨some 11, .fa (.t 10) 2, none⟩,
   ⟨some 12, .fa (.t 11) 0, none⟩,
   ⟨some 13, .ld 2 true (.t 12), none⟩,
   ⟨some 14, .fa (.t 2) 0, none⟩,
   ⟨some 15, .fa (.t 14) 2, none⟩,
   ⟨some 16, .fa (.t 15) 0, none⟩,
   ⟨some 17, .ld 2 true (.t 16), none⟩,
   ⟨some 18, .call (.f 25) [(.t 13), (.t 17)], none⟩,
   ⟨some 9, .mv (.t 18), none⟩,
   ⟨some 19, .ext (.t 9) 0, none⟩,
   ⟨some 20, .ext (.t 9) 1, none⟩,
   ⟨some 5, .alloc 24 [(.int .i64 0), (.int .i64 0)], none⟩,
   ⟨none, .st 2 (.t 5) (.t 19), none⟩,
   ⟨some 6, .mv (.t 20), none⟩])
 (.seq (.reg [
   ⟨some 22, .ld 2 true (.t 5), none⟩,
   ⟨some 23, .call (.f 26) [(.t 22), (.c (.int .i64 19005440))], none⟩,
   ⟨some 21, .mv (.t 23), none⟩,
   ⟨some 24, .ext (.t 21) 0, none⟩,
   ⟨some 25, .ext (.t 21) 1, none⟩,
   ⟨some 7, .mv (.t 24), none⟩,
   ⟨some 8, .mv (.t 25), none⟩])
 (.seq (.reg [
   ⟨some 26, .fa (.t 2) 0, none⟩,
   ⟨some 27, .fa (.t 26) 7, none⟩,
   ⟨some 28, .ld 1 false (.t 27), none⟩,
   ⟨some 29, .not (.t 28), none⟩,
   ⟨some 30, .mv (.t 29), none⟩,
   ⟨some 31, .fa (.t 3) 0, some (30, true)⟩,
   ⟨some 32, .fa (.t 31) 7, some (30, true)⟩,
   ⟨some 33, .ld 1 false (.t 32), some (30, true)⟩,
   ⟨some 34, .not (.t 33), some (30, true)⟩,
   ⟨some 35, .pick (.t 30) (.t 34) (.c (.bool false)), none⟩,
   ⟨some 36, .mv (.t 35), none⟩,
   ⟨some 37, .mv (.t 7), some (36, true)⟩,
   ⟨some 38, .pick (.t 36) (.t 37) (.c (.bool false)), none⟩,
   ⟨some 39, .mv (.t 38), none⟩,
   ⟨some 40, .ld 2 true (.t 5), some (39, true)⟩,
   ⟨some 41, .bld [(.int .i64 0), (.int .i64 0)] [], some (39, true)⟩,
   ⟨some 42, .eqa true [.int .i64, .int .i64] (.t 40) (.t 41), some (39, true)⟩,
   ⟨some 43, .pick (.t 39) (.t 42) (.c (.bool false)), none⟩,
   ⟨some 4, .mv (.t 43), none⟩])
 .ret)))),
  [.tmp 4]⟩
theorem c18 : chkFn Try.prog Try.f18 a18 = true := by kernel_rfl

/-- besom/contact.meet -/
def a19 : AFn := ⟨3, (.seq (.reg [
   ⟨some 6, .mv (.c (.bool false)), none⟩])
 (.seq (.drw [
   (⟨some 11, .mv (.t 1), none⟩, []),
   (⟨some 12, .nck (.t 11), none⟩, [0]),
   (⟨some 13, .fa (.t 12) 0, none⟩, [1, 0]),
   (⟨some 14, .fa (.t 13) 2, none⟩, [2, 1, 0]),
   (⟨some 15, .fa (.t 14) 0, none⟩, [3, 2, 1, 0]),
   (⟨some 16, .ld 2 true (.t 15), none⟩, [4, 3, 2, 1, 0]),
   (⟨some 17, .mv (.t 0), none⟩, []),
   (⟨some 18, .nck (.t 17), none⟩, [6]),
   (⟨some 19, .fa (.t 18) 0, none⟩, [7, 6]),
   (⟨some 20, .fa (.t 19) 2, none⟩, [8, 7, 6]),
   (⟨some 21, .fa (.t 20) 0, none⟩, [9, 8, 7, 6]),
   (⟨some 22, .ld 2 true (.t 21), none⟩, [10, 9, 8, 7, 6]),
   (⟨some 23, .call (.f 25) [(.t 16), (.t 22)], none⟩, [5, 4, 3, 2, 1, 0, 11, 10, 9, 8, 7, 6]),
   (⟨some 24, .ext (.t 23) 0, none⟩, [12, 5, 4, 3, 2, 1, 0, 11, 10, 9, 8, 7, 6]),
   (⟨some 25, .ext (.t 23) 1, none⟩, [12, 5, 4, 3, 2, 1, 0, 11, 10, 9, 8, 7, 6]),
   (⟨some 26, .call (.f 27) [(.t 24), (.t 25)], none⟩, [13, 12, 5, 4, 3, 2, 1, 0, 11, 10, 9, 8, 7, 6, 14]),
   (⟨some 27, .call (.f 28) [(.t 26)], none⟩, [15, 13, 12, 5, 4, 3, 2, 1, 0, 11, 10, 9, 8, 7, 6, 14]),
   (⟨some 28, .ext (.t 27) 0, none⟩, [16, 15, 13, 12, 5, 4, 3, 2, 1, 0, 11, 10, 9, 8, 7, 6, 14]),
   (⟨some 29, .ext (.t 27) 1, none⟩, [16, 15, 13, 12, 5, 4, 3, 2, 1, 0, 11, 10, 9, 8, 7, 6, 14]),
   (⟨some 30, .call (.f 27) [(.t 28), (.t 29)], none⟩, [17, 16, 15, 13, 12, 5, 4, 3, 2, 1, 0, 11, 10, 9, 8, 7, 6, 14, 18]),
   (⟨some 7, .alloc 24 [(.int .i64 0), (.int .i64 0)], none⟩, []),
   (⟨none, .st 2 (.t 7) (.t 30), none⟩, [20, 19, 17, 16, 15, 13, 12, 5, 4, 3, 2, 1, 0, 11, 10, 9, 8, 7, 6, 14, 18])])
 (.seq (.drw [
   (⟨some 31, .mv (.t 0), none⟩, []),
   (⟨some 32, .nck (.t 31), none⟩, [0]),
   (⟨some 33, .fa (.t 32) 0, none⟩, [1, 0]),
   (⟨some 34, .fa (.t 33) 2, none⟩, [2, 1, 0]),
   (⟨some 35, .fa (.t 34) 2, none⟩, [3, 2, 1, 0]),
   (⟨some 36, .ld 2 true (.t 35), none⟩, [4, 3, 2, 1, 0]),
   (⟨some 37, .mv (.t 1), none⟩, []),
   (⟨some 38, .nck (.t 37), none⟩, [6]),
   (⟨some 39, .fa (.t 38) 0, none⟩, [7, 6]),
   (⟨some 40, .fa (.t 39) 2, none⟩, [8, 7, 6]),
   (⟨some 41, .fa (.t 40) 2, none⟩, [9, 8, 7, 6]),
   (⟨some 42, .ld 2 true (.t 41), none⟩, [10, 9, 8, 7, 6]),
   (⟨some 43, .call (.f 25) [(.t 36), (.t 42)], none⟩, [5, 4, 3, 2, 1, 0, 11, 10, 9, 8, 7, 6]),
   (⟨some 44, .ext (.t 43) 0, none⟩, [12, 5, 4, 3, 2, 1, 0, 11, 10, 9, 8, 7, 6]),
   (⟨some 45, .ext (.t 43) 1, none⟩, [12, 5, 4, 3, 2, 1, 0, 11, 10, 9, 8, 7, 6]),
   (⟨some 46, .call (.f 27) [(.t 44), (.t 45)], none⟩, [13, 12, 5, 4, 3, 2, 1, 0, 11, 10, 9, 8, 7, 6, 14]),
   (⟨some 8, .alloc 24 [(.int .i64 0), (.int .i64 0)], none⟩, []),
   (⟨none, .st 2 (.t 8) (.t 46), none⟩, [16, 15, 13, 12, 5, 4, 3, 2, 1, 0, 11, 10, 9, 8, 7, 6, 14])])
 (.seq (.reg [
   ⟨some 47, .ld 2 true (.t 8), none⟩,
   ⟨some 48, .ld 2 true (.t 7), none⟩,
   ⟨some 49, .call (.f 30) [(.t 47), (.t 48), (.c (.int .i64 1))], none⟩,
   ⟨some 50, .ext (.t 49) 0, none⟩,
   ⟨some 51, .ext (.t 49) 1, none⟩,
   ⟨some 52, .call (.f 29) [(.t 50), (.t 51)], none⟩,
   ⟨some 9, .mv (.t 52), none⟩])
 (.seq (.seq (.reg [
   ⟨some 53, .mv (.t 9), none⟩,
   ⟨some 54, .bin .leq (.t 53) (.c (.int .i64 0)), none⟩])
 (.cond (.t 54) (.seq (.reg [
    ⟨some 6, .mv (.c (.bool false)), none⟩])
  .ret)
 .skip))
 (.seq (.drw [
   (⟨some 55, .ld 2 true (.t 7), none⟩, []),
   (⟨some 56, .mv (.t 9), none⟩, []),
   (⟨some 57, .mv (.t 2), none⟩, []),
   (⟨some 58, .bin .add (.c (.int .i64 1000)) (.t 57), none⟩, [2]),
   (⟨some 59, .call (.f 32) [(.t 56), (.t 58), (.c (.int .i64 2000)), (.c (.int .i64 0))], none⟩, [1, 3, 2]),
   (⟨some 60, .ext (.t 59) 0, none⟩, [4, 1, 3, 2]),
   (⟨some 61, .ext (.t 59) 1, none⟩, [4, 1, 3, 2]),
   (⟨some 62, .call (.f 29) [(.t 60), (.t 61)], none⟩, [5, 4, 1, 3, 2, 6]),
   (⟨some 63, .call (.f 31) [(.t 55), (.t 62), (.c (.int .i64 0))], none⟩, [0, 7, 5, 4, 1, 3, 2, 6]),
   (⟨some 64, .ext (.t 63) 0, none⟩, [8, 0, 7, 5, 4, 1, 3, 2, 6]),
   (⟨some 65, .ext (.t 63) 1, none⟩, [8, 0, 7, 5, 4, 1, 3, 2, 6]),
   (⟨some 66, .call (.f 27) [(.t 64), (.t 65)], none⟩, [9, 8, 0, 7, 5, 4, 1, 3, 2, 6, 10]),
   (⟨some 10, .alloc 24 [(.int .i64 0), (.int .i64 0)], none⟩, []),
   (⟨none, .st 2 (.t 10) (.t 66), none⟩, [12, 11, 9, 8, 0, 7, 5, 4, 1, 3, 2, 6, 10])])
 (.seq (.drw [
   (⟨some 67, .mv (.t 0), none⟩, []),
   (⟨some 68, .mv (.t 0), none⟩, []),
   (⟨some 69, .nck (.t 68), none⟩, [1]),
   (⟨some 70, .fa (.t 69) 0, none⟩, [2, 1]),
   (⟨some 71, .fa (.t 70) 2, none⟩, [3, 2, 1]),
   (⟨some 72, .fa (.t 71) 2, none⟩, [4, 3, 2, 1]),
   (⟨some 73, .ld 2 true (.t 72), none⟩, [5, 4, 3, 2, 1]),
   (⟨some 74, .ld 2 true (.t 10), none⟩, []),
   (⟨some 75, .call (.f 25) [(.t 73), (.t 74)], none⟩, [6, 5, 4, 3, 2, 1, 7]),
   (⟨some 76, .ext (.t 75) 0, none⟩, [8, 6, 5, 4, 3, 2, 1, 7]),
   (⟨some 77, .ext (.t 75) 1, none⟩, [8, 6, 5, 4, 3, 2, 1, 7]),
   (⟨some 78, .call (.f 27) [(.t 76), (.t 77)], none⟩, [9, 8, 6, 5, 4, 3, 2, 1, 7, 10]),
   (⟨some 79, .nck (.t 67), none⟩, [0, 1, 2, 3, 4, 5, 6, 7, 8, 9, 10, 11]),
   (⟨some 80, .fa (.t 79) 0, none⟩, [12, 0, 1, 2, 3, 4, 5, 6, 7, 8, 9, 10, 11]),
   (⟨some 81, .fa (.t 80) 2, none⟩, [13, 12, 0, 1, 2, 3, 4, 5, 6, 7, 8, 9, 10, 11]),
   (⟨some 82, .fa (.t 81) 2, none⟩, [14, 13, 12, 0, 1, 2, 3, 4, 5, 6, 7, 8, 9, 10, 11]),
   (⟨none, .st 2 (.t 82) (.t 78), none⟩, [15, 14, 13, 12, 0, 1, 2, 3, 4, 5, 6, 7, 8, 9, 10, 11])])
 (.seq (.drw [
   (⟨some 83, .mv (.t 1), none⟩, []),
   (⟨some 84, .mv (.t 1), none⟩, []),
   (⟨some 85, .nck (.t 84), none⟩, [1]),
   (⟨some 86, .fa (.t 85) 0, none⟩, [2, 1]),
   (⟨some 87, .fa (.t 86) 2, none⟩, [3, 2, 1]),
   (⟨some 88, .fa (.t 87) 2, none⟩, [4, 3, 2, 1]),
   (⟨some 89, .ld 2 true (.t 88), none⟩, [5, 4, 3, 2, 1]),
   (⟨some 90, .ld 2 true (.t 10), none⟩, []),
   (⟨some 91, .call (.f 33) [(.t 89), (.t 90)], none⟩, [6, 5, 4, 3, 2, 1, 7]),
   (⟨some 92, .ext (.t 91) 0, none⟩, [8, 6, 5, 4, 3, 2, 1, 7]),
   (⟨some 93, .ext (.t 91) 1, none⟩, [8, 6, 5, 4, 3, 2, 1, 7]),
   (⟨some 94, .call (.f 27) [(.t 92), (.t 93)], none⟩, [9, 8, 6, 5, 4, 3, 2, 1, 7, 10]),
   (⟨some 95, .nck (.t 83), none⟩, [0, 1, 2, 3, 4, 5, 6, 7, 8, 9, 10, 11]),
   (⟨some 96, .fa (.t 95) 0, none⟩, [12, 0, 1, 2, 3, 4, 5, 6, 7, 8, 9, 10, 11]),
   (⟨some 97, .fa (.t 96) 2, none⟩, [13, 12, 0, 1, 2, 3, 4, 5, 6, 7, 8, 9, 10, 11]),
   (⟨some 98, .fa (.t 97) 2, none⟩, [14, 13, 12, 0, 1, 2, 3, 4, 5, 6, 7, 8, 9, 10, 11]),
   (⟨none, .st 2 (.t 98) (.t 94), none⟩, [15, 14, 13, 12, 0, 1, 2, 3, 4, 5, 6, 7, 8, 9, 10, 11])])
 (.seq (.seq (.reg [
   ⟨some 99, .mv (.t 0), none⟩,
   ⟨some 100, .nck (.t 99), none⟩,
   ⟨some 101, .ld 8 true (.t 100), none⟩,
   ⟨some 102, .call (.f 14) [(.t 101)], none⟩,
   ⟨some 103, .not (.t 102), none⟩,
   ⟨some 104, .mv (.t 103), none⟩,
   ⟨some 105, .mv (.t 1), some (104, false)⟩,
   ⟨some 106, .nck (.t 105), some (104, false)⟩,
   ⟨some 107, .ld 8 true (.t 106), some (104, false)⟩,
   ⟨some 108, .call (.f 14) [(.t 107)], some (104, false)⟩,
   ⟨some 109, .not (.t 108), some (104, false)⟩,
   ⟨some 110, .pick (.t 104) (.c (.bool true)) (.t 109), none⟩])
 (.cond (.t 110) (.reg [
    ⟨some 111, .bld [(.int .i64 0)] [(0, 1, (.c (.int .i64 4)))], none⟩,
    ⟨some 112, .mki 62 (.t 111), none⟩,
    ⟨none, .pan (.t 112), none⟩])
 .skip))
 (.seq (.reg [
   ⟨some 6, .mv (.c (.bool true)), none⟩])
 .ret)))))))))),
  [.tmp 6]⟩
theorem c19 : chkFn Try.prog Try.f19 a19 = true := by kernel_rfl

/-- math/bits.Mul64 -/
def a20 : AFn := ⟨2, (.seq (.reg [
   ⟨some 4, .mv (.c (.int .u64 0)), none⟩,
   ⟨some 5, .mv (.c (.int .u64 0)), none⟩])
 (.seq (.reg [
   ⟨some 14, .mv (.t 0), none⟩,
   ⟨some 15, .bin .and (.t 14) (.c (.int .u64 4294967295)), none⟩,
   ⟨some 6, .mv (.t 15), none⟩])
 (.seq (.reg [
   ⟨some 16, .mv (.t 0), none⟩,
   ⟨some 17, .bin .shr (.t 16) (.c (.int .u64 32)), none⟩,
   ⟨some 7, .mv (.t 17), none⟩])
 (.seq (.reg [
   ⟨some 18, .mv (.t 1), none⟩,
   ⟨some 19, .bin .and (.t 18) (.c (.int .u64 4294967295)), none⟩,
   ⟨some 8, .mv (.t 19), none⟩])
 (.seq (.reg [
   ⟨some 20, .mv (.t 1), none⟩,
   ⟨some 21, .bin .shr (.t 20) (.c (.int .u64 32)), none⟩,
   ⟨some 9, .mv (.t 21), none⟩])
 (.seq (.reg [
   ⟨some 22, .mv (.t 6), none⟩,
   ⟨some 23, .mv (.t 8), none⟩,
   ⟨some 24, .bin .mul (.t 22) (.t 23), none⟩,
   ⟨some 10, .mv (.t 24), none⟩])
 (.seq (.reg [
   ⟨some 25, .mv (.t 7), none⟩,
   ⟨some 26, .mv (.t 8), none⟩,
   ⟨some 27, .bin .mul (.t 25) (.t 26), none⟩,
   ⟨some 28, .mv (.t 10), none⟩,
   ⟨some 29, .bin .shr (.t 28) (.c (.int .u64 32)), none⟩,
   ⟨some 30, .bin .add (.t 27) (.t 29), none⟩,
   ⟨some 11, .mv (.t 30), none⟩])
 (.seq (.reg [
   ⟨some 31, .mv (.t 11), none⟩,
   ⟨some 32, .bin .and (.t 31) (.c (.int .u64 4294967295)), none⟩,
   ⟨some 12, .mv (.t 32), none⟩])
 (.seq (.reg [
   ⟨some 33, .mv (.t 11), none⟩,
   ⟨some 34, .bin .shr (.t 33) (.c (.int .u64 32)), none⟩,
   ⟨some 13, .mv (.t 34), none⟩])
 (.seq (.reg [
   ⟨some 35, .mv (.t 12), none⟩,
   ⟨some 36, .mv (.t 6), none⟩,
   ⟨some 37, .mv (.t 9), none⟩,
   ⟨some 38, .bin .mul (.t 36) (.t 37), none⟩,
   ⟨some 39, .bin .add (.t 35) (.t 38), none⟩,
   ⟨some 12, .mv (.t 39), none⟩])
 (.seq (.reg [
   ⟨some 40, .mv (.t 7), none⟩,
   ⟨some 41, .mv (.t 9), none⟩,
   ⟨some 42, .bin .mul (.t 40) (.t 41), none⟩,
   ⟨some 43, .mv (.t 13), none⟩,
   ⟨some 44, .bin .add (.t 42) (.t 43), none⟩,
   ⟨some 45, .mv (.t 12), none⟩,
   ⟨some 46, .bin .shr (.t 45) (.c (.int .u64 32)), none⟩,
   ⟨some 47, .bin .add (.t 44) (.t 46), none⟩,
   ⟨some 4, .mv (.t 47), none⟩])
 (.seq (.reg [
   ⟨some 48, .mv (.t 0), none⟩,
   ⟨some 49, .mv (.t 1), none⟩,
   ⟨some 50, .bin .mul (.t 48) (.t 49), none⟩,
   ⟨some 5, .mv (.t 50), none⟩])
 .ret)))))))))))),
  [.tmp 4, .tmp 5]⟩
theorem c20 : chkFn Try.prog Try.f20 a20 = true := by kernel_rfl

/-- (besom/contact.body).gone -/
def a21 : AFn := ⟨1, (.seq (.reg [
   ⟨some 1, .box 48 (.t 0), none⟩,
   ⟨some 2, .mv (.c (.bool false)), none⟩])
 (.seq (.reg [
   ⟨some 3, .fa (.t 1) 0, none⟩,
   ⟨some 4, .fa (.t 3) 2, none⟩,
   ⟨some 5, .fa (.t 4) 0, none⟩,
   ⟨some 6, .fa (.t 5) 0, none⟩,
   ⟨some 7, .ld 1 false (.t 6), none⟩,
   ⟨some 8, .fa (.t 1) 0, none⟩,
   ⟨some 9, .fa (.t 8) 2, none⟩,
   ⟨some 10, .fa (.t 9) 0, none⟩,
   ⟨some 11, .fa (.t 10) 0, none⟩,
   ⟨some 12, .ld 1 false (.t 11), none⟩,
   ⟨some 13, .neg (.t 12), none⟩,
   ⟨some 14, .mx false (.t 7) (.t 13), none⟩,
   ⟨some 15, .bin .geq (.t 14) (.c (.int .i64 146145280)), none⟩,
   ⟨some 16, .mv (.t 15), none⟩,
   ⟨some 17, .fa (.t 1) 0, some (16, false)⟩,
   ⟨some 18, .fa (.t 17) 2, some (16, false)⟩,
   ⟨some 19, .fa (.t 18) 0, some (16, false)⟩,
   ⟨some 20, .fa (.t 19) 1, some (16, false)⟩,
   ⟨some 21, .ld 1 false (.t 20), some (16, false)⟩,
   ⟨some 22, .bin .gtr (.t 21) (.c (.int .i64 129368064)), some (16, false)⟩,
   ⟨some 23, .pick (.t 16) (.c (.bool true)) (.t 22), none⟩,
   ⟨some 24, .mv (.t 23), none⟩,
   ⟨some 25, .fa (.t 1) 0, some (24, false)⟩,
   ⟨some 26, .fa (.t 25) 2, some (24, false)⟩,
   ⟨some 27, .fa (.t 26) 0, some (24, false)⟩,
   ⟨some 28, .fa (.t 27) 1, some (24, false)⟩,
   ⟨some 29, .ld 1 false (.t 28), some (24, false)⟩,
   ⟨some 30, .bin .lss (.t 29) (.c (.int .i64 (-1977417728))), some (24, false)⟩,
   ⟨some 31, .pick (.t 24) (.c (.bool true)) (.t 30), none⟩,
   ⟨some 2, .mv (.t 31), none⟩])
 .ret)),
  [.tmp 2]⟩
theorem c21 : chkFn Try.prog Try.f21 a21 = true := by kernel_rfl

/-- (besom/contact.body).rests -/
def a22 : AFn := ⟨1, (.seq (.reg [
   ⟨some 1, .box 48 (.t 0), none⟩,
   ⟨some 2, .mv (.c (.bool false)), none⟩])
 (.seq (.reg [
   ⟨some 3, .fa (.t 1) 0, none⟩,
   ⟨some 4, .fa (.t 3) 2, none⟩,
   ⟨some 5, .fa (.t 4) 2, none⟩,
   ⟨some 6, .ld 2 true (.t 5), none⟩,
   ⟨some 7, .bld [(.int .i64 0), (.int .i64 0)] [], none⟩,
   ⟨some 8, .eqa false [.int .i64, .int .i64] (.t 6) (.t 7), none⟩,
   ⟨some 2, .mv (.t 8), none⟩])
 .ret)),
  [.tmp 2]⟩
theorem c22 : chkFn Try.prog Try.f22 a22 = true := by kernel_rfl

/-- besom/glide.Check -/
def a23 : AFn := ⟨1, (.seq (.reg [
   ⟨some 1, .box 26 (.t 0), none⟩,
   ⟨some 2, .mv (.c (.int .i64 0)), none⟩])
 (.seq (.seq (.reg [
   ⟨some 3, .fa (.t 1) 0, none⟩,
   ⟨some 4, .ld 2 true (.t 3), none⟩,
   ⟨some 5, .call (.f 34) [(.t 4), (.c (.int .i64 6553600000))], none⟩,
   ⟨some 6, .not (.t 5), none⟩,
   ⟨some 7, .mv (.t 6), none⟩,
   ⟨some 8, .fa (.t 1) 2, some (7, false)⟩,
   ⟨some 9, .ld 2 true (.t 8), some (7, false)⟩,
   ⟨some 10, .call (.f 34) [(.t 9), (.c (.int .i64 65536000))], some (7, false)⟩,
   ⟨some 11, .not (.t 10), some (7, false)⟩,
   ⟨some 12, .pick (.t 7) (.c (.bool true)) (.t 11), none⟩,
   ⟨some 13, .mv (.t 12), none⟩,
   ⟨some 14, .fa (.t 1) 4, some (13, false)⟩,
   ⟨some 15, .ld 1 false (.t 14), some (13, false)⟩,
   ⟨some 16, .call (.f 35) [(.t 15), (.c (.int .i64 (-1000))), (.c (.int .i64 1000))], some (13, false)⟩,
   ⟨some 17, .not (.t 16), some (13, false)⟩,
   ⟨some 18, .pick (.t 13) (.c (.bool true)) (.t 17), none⟩])
 (.cond (.t 18) (.seq (.reg [
    ⟨some 2, .mv (.c (.int .i64 2)), none⟩])
  .ret)
 .skip))
 (.seq (.reg [
   ⟨some 2, .mv (.c (.int .i64 0)), none⟩])
 .ret))),
  [.tmp 2]⟩
theorem c23 : chkFn Try.prog Try.f23 a23 = true := by kernel_rfl

/-- besom/contact.tried$1 -/
def a24 : AFn := ⟨1, (.seq (.reg [
   ⟨some 4, .no, none⟩,
   ⟨some 1, .mv (.t 4), none⟩])
 (.seq (.reg [
   ⟨some 6, .mv (.t 1), none⟩,
   ⟨some 7, .tas 62 [(.int .i64 0)] (.t 6), none⟩,
   ⟨some 5, .mv (.t 7), none⟩,
   ⟨some 8, .ext (.t 5) 0, none⟩,
   ⟨some 9, .ext (.t 5) 1, none⟩,
   ⟨some 2, .alloc 62 [(.int .i64 0)], none⟩,
   ⟨none, .st 1 (.t 2) (.t 8), none⟩,
   ⟨some 3, .mv (.t 9), none⟩])
 (.seq (.reg [
   ⟨some 10, .mv (.t 3), none⟩])
 (.cond (.t 10) (.reg [
    ⟨some 11, .fa (.t 2) 0, none⟩,
    ⟨some 12, .ld 1 false (.t 11), none⟩,
    ⟨none, .st 1 (.t 0) (.t 12), none⟩])
 (.seq (.reg [
    ⟨some 13, .mv (.t 1), none⟩,
    ⟨some 14, .ifn true (.t 13), none⟩])
  (.cond (.t 14) (.reg [
     ⟨some 15, .mv (.t 1), none⟩,
     ⟨none, .pan (.t 15), none⟩])
  .skip)))))),
  []⟩
theorem c24 : chkFn Try.prog Try.f24 a24 = true := by kernel_rfl

/-- besom/fixed.Minus -/
def a25 : AFn := ⟨2, (.seq (.reg [
   ⟨some 2, .box 24 (.t 0), none⟩,
   ⟨some 3, .box 24 (.t 1), none⟩,
   ⟨some 4, .alloc 24 [(.int .i64 0), (.int .i64 0)], none⟩,
   ⟨some 5, .mv (.c (.int .i64 0)), none⟩])
 (.seq (.reg [
   ⟨some 6, .ld 2 true (.t 2), none⟩,
   ⟨some 7, .ld 2 true (.t 3), none⟩,
   ⟨some 8, .call (.f 36) [(.t 6), (.t 7), (.f 37)], none⟩,
   ⟨some 9, .ext (.t 8) 0, none⟩,
   ⟨some 10, .ext (.t 8) 1, none⟩,
   ⟨none, .st 2 (.t 4) (.t 9), none⟩,
   ⟨some 5, .mv (.t 10), none⟩])
 .ret)),
  [.cell 4 2 true, .tmp 5]⟩
theorem c25 : chkFn Try.prog Try.f25 a25 = true := by kernel_rfl

/-- besom/fixed.Within -/
def a26 : AFn := ⟨2, (.seq (.reg [
   ⟨some 2, .box 24 (.t 0), none⟩,
   ⟨some 3, .box 22 (.t 1), none⟩,
   ⟨some 4, .mv (.c (.bool false)), none⟩,
   ⟨some 5, .mv (.c (.int .i64 0)), none⟩])
 (.seq (.reg [
   ⟨some 6, .mkf 39 [] [(.t 2), (.t 3)], none⟩,
   ⟨some 7, .call (.f 38) [(.t 6)], none⟩,
   ⟨some 8, .ext (.t 7) 0, none⟩,
   ⟨some 9, .ext (.t 7) 1, none⟩,
   ⟨some 4, .mv (.t 8), none⟩,
   ⟨some 5, .mv (.t 9), none⟩])
 .ret)),
  [.tmp 4, .tmp 5]⟩
theorem c26 : chkFn Try.prog Try.f26 a26 = true := by kernel_rfl

/-- besom/contact.must[besom/api.Spot] -/
def a27 : AFn := ⟨2, (.seq (.reg [
   ⟨some 2, .box 24 (.t 0), none⟩,
   ⟨some 4, .alloc 24 [(.int .i64 0), (.int .i64 0)], none⟩])
 (.seq (.seq (.reg [
   ⟨some 5, .mv (.t 1), none⟩,
   ⟨some 6, .bin .neq (.t 5) (.c (.int .i64 0)), none⟩])
 (.cond (.t 6) (.reg [
    ⟨some 7, .mv (.t 1), none⟩,
    ⟨some 8, .bld [(.int .i64 0)] [(0, 1, (.t 7))], none⟩,
    ⟨some 9, .mki 62 (.t 8), none⟩,
    ⟨none, .pan (.t 9), none⟩])
 .skip))
 (.seq (.reg [
   ⟨some 10, .ld 2 true (.t 2), none⟩,
   ⟨none, .st 2 (.t 4) (.t 10), none⟩])
 .ret))),
  [.cell 4 2 true]⟩
theorem c27 : chkFn Try.prog Try.f27 a27 = true := by kernel_rfl

/-- besom/fixed.Unit -/
def a28 : AFn := ⟨1, (.seq (.reg [
   ⟨some 1, .box 24 (.t 0), none⟩,
   ⟨some 2, .alloc 24 [(.int .i64 0), (.int .i64 0)], none⟩,
   ⟨some 3, .mv (.c (.int .i64 0)), none⟩])
 (.seq (.reg [
   ⟨some 4, .mkf 46 [] [(.t 1)], none⟩,
   ⟨some 5, .call (.f 45) [(.t 4)], none⟩,
   ⟨some 6, .ext (.t 5) 0, none⟩,
   ⟨some 7, .ext (.t 5) 1, none⟩,
   ⟨none, .st 2 (.t 2) (.t 6), none⟩,
   ⟨some 3, .mv (.t 7), none⟩])
 .ret)),
  [.cell 2 2 true, .tmp 3]⟩
theorem c28 : chkFn Try.prog Try.f28 a28 = true := by kernel_rfl

/-- besom/contact.must[besom/api.Fix] -/
def a29 : AFn := ⟨2, (.seq (.reg [
   ⟨some 4, .mv (.c (.int .i64 0)), none⟩])
 (.seq (.seq (.reg [
   ⟨some 5, .mv (.t 1), none⟩,
   ⟨some 6, .bin .neq (.t 5) (.c (.int .i64 0)), none⟩])
 (.cond (.t 6) (.reg [
    ⟨some 7, .mv (.t 1), none⟩,
    ⟨some 8, .bld [(.int .i64 0)] [(0, 1, (.t 7))], none⟩,
    ⟨some 9, .mki 62 (.t 8), none⟩,
    ⟨none, .pan (.t 9), none⟩])
 .skip))
 (.seq (.reg [
   ⟨some 10, .mv (.t 0), none⟩,
   ⟨some 4, .mv (.t 10), none⟩])
 .ret))),
  [.tmp 4]⟩
theorem c29 : chkFn Try.prog Try.f29 a29 = true := by kernel_rfl

/-- besom/fixed.Dot -/
def a30 : AFn := ⟨3, (.seq (.reg [
   ⟨some 3, .box 24 (.t 0), none⟩,
   ⟨some 4, .box 24 (.t 1), none⟩,
   ⟨some 5, .box 3 (.t 2), none⟩,
   ⟨some 6, .mv (.c (.int .i64 0)), none⟩,
   ⟨some 7, .mv (.c (.int .i64 0)), none⟩])
 (.seq (.reg [
   ⟨some 8, .mkf 52 [] [(.t 3), (.t 4), (.t 5)], none⟩,
   ⟨some 9, .call (.f 51) [(.t 8)], none⟩,
   ⟨some 10, .ext (.t 9) 0, none⟩,
   ⟨some 11, .ext (.t 9) 1, none⟩,
   ⟨some 6, .mv (.t 10), none⟩,
   ⟨some 7, .mv (.t 11), none⟩])
 .ret)),
  [.tmp 6, .tmp 7]⟩
theorem c30 : chkFn Try.prog Try.f30 a30 = true := by kernel_rfl

/-- besom/fixed.Times -/
def a31 : AFn := ⟨3, (.seq (.reg [
   ⟨some 3, .box 24 (.t 0), none⟩,
   ⟨some 4, .box 22 (.t 1), none⟩,
   ⟨some 5, .box 3 (.t 2), none⟩,
   ⟨some 6, .alloc 24 [(.int .i64 0), (.int .i64 0)], none⟩,
   ⟨some 7, .mv (.c (.int .i64 0)), none⟩])
 (.seq (.reg [
   ⟨some 11, .mkf 58 [] [(.t 3), (.t 4), (.t 5)], none⟩,
   ⟨some 12, .call (.f 57) [(.t 11)], none⟩,
   ⟨some 10, .mv (.t 12), none⟩,
   ⟨some 13, .ext (.t 10) 0, none⟩,
   ⟨some 14, .ext (.t 10) 1, none⟩,
   ⟨some 8, .alloc 93 [.nfn], none⟩,
   ⟨none, .st 1 (.t 8) (.t 13), none⟩,
   ⟨some 9, .mv (.t 14), none⟩])
 (.seq (.seq (.reg [
   ⟨some 15, .mv (.t 9), none⟩,
   ⟨some 16, .bin .neq (.t 15) (.c (.int .i64 0)), none⟩])
 (.cond (.t 16) (.seq (.reg [
    ⟨some 17, .bld [(.int .i64 0), (.int .i64 0)] [], none⟩,
    ⟨some 18, .mv (.t 9), none⟩,
    ⟨none, .st 2 (.t 6) (.t 17), none⟩,
    ⟨some 7, .mv (.t 18), none⟩])
  .ret)
 .skip))
 (.seq (.reg [
   ⟨some 19, .ld 2 true (.t 3), none⟩,
   ⟨some 20, .ld 2 true (.t 3), none⟩,
   ⟨some 21, .mkf 59 [] [(.t 4), (.t 8)], none⟩,
   ⟨some 22, .call (.f 36) [(.t 19), (.t 20), (.t 21)], none⟩,
   ⟨some 23, .ext (.t 22) 0, none⟩,
   ⟨some 24, .ext (.t 22) 1, none⟩,
   ⟨none, .st 2 (.t 6) (.t 23), none⟩,
   ⟨some 7, .mv (.t 24), none⟩])
 .ret)))),
  [.cell 6 2 true, .tmp 7]⟩
theorem c31 : chkFn Try.prog Try.f31 a31 = true := by kernel_rfl

/-- besom/fixed.Scale -/
def a32 : AFn := ⟨4, (.seq (.reg [
   ⟨some 4, .box 22 (.t 0), none⟩,
   ⟨some 5, .box 3 (.t 1), none⟩,
   ⟨some 6, .box 3 (.t 2), none⟩,
   ⟨some 7, .box 3 (.t 3), none⟩,
   ⟨some 8, .mv (.c (.int .i64 0)), none⟩,
   ⟨some 9, .mv (.c (.int .i64 0)), none⟩])
 (.seq (.reg [
   ⟨some 10, .mkf 61 [] [(.t 4), (.t 7), (.t 5), (.t 6)], none⟩,
   ⟨some 11, .call (.f 51) [(.t 10)], none⟩,
   ⟨some 12, .ext (.t 11) 0, none⟩,
   ⟨some 13, .ext (.t 11) 1, none⟩,
   ⟨some 8, .mv (.t 12), none⟩,
   ⟨some 9, .mv (.t 13), none⟩])
 .ret)),
  [.tmp 8, .tmp 9]⟩
theorem c32 : chkFn Try.prog Try.f32 a32 = true := by kernel_rfl

/-- besom/fixed.Plus -/
def a33 : AFn := ⟨2, (.seq (.reg [
   ⟨some 2, .box 24 (.t 0), none⟩,
   ⟨some 3, .box 24 (.t 1), none⟩,
   ⟨some 4, .alloc 24 [(.int .i64 0), (.int .i64 0)], none⟩,
   ⟨some 5, .mv (.c (.int .i64 0)), none⟩])
 (.seq (.reg [
   ⟨some 6, .ld 2 true (.t 2), none⟩,
   ⟨some 7, .ld 2 true (.t 3), none⟩,
   ⟨some 8, .call (.f 36) [(.t 6), (.t 7), (.f 63)], none⟩,
   ⟨some 9, .ext (.t 8) 0, none⟩,
   ⟨some 10, .ext (.t 8) 1, none⟩,
   ⟨none, .st 2 (.t 4) (.t 9), none⟩,
   ⟨some 5, .mv (.t 10), none⟩])
 .ret)),
  [.cell 4 2 true, .tmp 5]⟩
theorem c33 : chkFn Try.prog Try.f33 a33 = true := by kernel_rfl

/-- besom/glide.square -/
def a34 : AFn := ⟨2, (.seq (.reg [
   ⟨some 2, .box 24 (.t 0), none⟩,
   ⟨some 4, .mv (.c (.bool false)), none⟩])
 (.seq (.reg [
   ⟨some 5, .fa (.t 2) 0, none⟩,
   ⟨some 6, .ld 1 false (.t 5), none⟩,
   ⟨some 7, .mv (.t 1), none⟩,
   ⟨some 8, .neg (.t 7), none⟩,
   ⟨some 9, .mv (.t 1), none⟩,
   ⟨some 10, .call (.f 64) [(.t 6), (.t 8), (.t 9)], none⟩,
   ⟨some 11, .mv (.t 10), none⟩,
   ⟨some 12, .fa (.t 2) 1, some (11, true)⟩,
   ⟨some 13, .ld 1 false (.t 12), some (11, true)⟩,
   ⟨some 14, .mv (.t 1), some (11, true)⟩,
   ⟨some 15, .neg (.t 14), some (11, true)⟩,
   ⟨some 16, .mv (.t 1), some (11, true)⟩,
   ⟨some 17, .call (.f 64) [(.t 13), (.t 15), (.t 16)], some (11, true)⟩,
   ⟨some 18, .pick (.t 11) (.t 17) (.c (.bool false)), none⟩,
   ⟨some 4, .mv (.t 18), none⟩])
 .ret)),
  [.tmp 4]⟩
theorem c34 : chkFn Try.prog Try.f34 a34 = true := by kernel_rfl

/-- besom/glide.within[int] -/
def a35 : AFn := ⟨3, (.seq (.reg [
   ⟨some 6, .mv (.c (.bool false)), none⟩])
 (.seq (.reg [
   ⟨some 7, .mv (.t 1), none⟩,
   ⟨some 8, .mv (.t 0), none⟩,
   ⟨some 9, .bin .leq (.t 7) (.t 8), none⟩,
   ⟨some 10, .mv (.t 9), none⟩,
   ⟨some 11, .mv (.t 0), some (10, true)⟩,
   ⟨some 12, .mv (.t 2), some (10, true)⟩,
   ⟨some 13, .bin .leq (.t 11) (.t 12), some (10, true)⟩,
   ⟨some 14, .pick (.t 10) (.t 13) (.c (.bool false)), none⟩,
   ⟨some 6, .mv (.t 14), none⟩])
 .ret)),
  [.tmp 6]⟩
theorem c35 : chkFn Try.prog Try.f35 a35 = true := by kernel_rfl

/-- besom/fixed.each -/
def a36 : AFn := ⟨3, (.seq (.reg [
   ⟨some 3, .box 24 (.t 0), none⟩,
   ⟨some 4, .box 24 (.t 1), none⟩,
   ⟨some 5, .box 77 (.t 2), none⟩,
   ⟨some 6, .alloc 24 [(.int .i64 0), (.int .i64 0)], none⟩,
   ⟨some 7, .mv (.c (.int .i64 0)), none⟩])
 (.seq (.reg [
   ⟨some 8, .mkf 65 [] [(.t 3), (.t 4), (.t 5)], none⟩,
   ⟨some 9, .call (.f 45) [(.t 8)], none⟩,
   ⟨some 10, .ext (.t 9) 0, none⟩,
   ⟨some 11, .ext (.t 9) 1, none⟩,
   ⟨none, .st 2 (.t 6) (.t 10), none⟩,
   ⟨some 7, .mv (.t 11), none⟩])
 .ret)),
  [.cell 6 2 true, .tmp 7]⟩
theorem c36 : chkFn Try.prog Try.f36 a36 = true := by kernel_rfl

/-- besom/fixed.sub -/
def a37 : AFn := ⟨2, (.seq (.reg [
   ⟨some 4, .mv (.c (.int .i64 0)), none⟩])
 (.seq (.reg [
   ⟨some 5, .mv (.t 0), none⟩,
   ⟨some 6, .mv (.t 1), none⟩,
   ⟨some 7, .bsl 22 [.int .i64] 2 [(.int .i64 0), (.int .i64 0)] [(0, 1, (.t 5)), (1, 1, (.t 6))], none⟩,
   ⟨some 8, .call (.f 41) [(.t 7)], none⟩])
 (.seq (.reg [
   ⟨some 9, .mv (.t 0), none⟩,
   ⟨some 10, .mv (.t 1), none⟩,
   ⟨some 11, .bin .sub (.t 9) (.t 10), none⟩,
   ⟨some 12, .call (.f 44) [(.t 11)], none⟩,
   ⟨some 13, .mv (.t 0), none⟩,
   ⟨some 14, .mv (.t 1), none⟩,
   ⟨some 15, .bin .sub (.t 13) (.t 14), none⟩,
   ⟨some 16, .bin .lss (.t 15) (.c (.int .i64 0)), none⟩,
   ⟨some 17, .call (.f 49) [(.t 12), (.t 16)], none⟩,
   ⟨some 4, .mv (.t 17), none⟩])
 .ret))),
  [.tmp 4]⟩
theorem c37 : chkFn Try.prog Try.f37 a37 = true := by kernel_rfl

/-- besom/fixed.tried[bool] -/
def a38 : TFn := ⟨(.reg [
   ⟨some 2, .alloc 4 [(.bool false)], none⟩,
   ⟨some 3, .alloc 30 [(.int .i64 0)], none⟩]), 66, [2, 3], 4,
 (.seq (.reg [
   ⟨some 5, .mv (.t 0), none⟩,
   ⟨some 6, .call (.t 5) [], none⟩,
   ⟨none, .st 1 (.t 2) (.t 6), none⟩,
   ⟨none, .st 1 (.t 3) (.c (.int .i64 0)), none⟩])
 .ret),
  [.cell 2 1 false, .cell 3 1 false], 6, 2,
 (.seq (.reg [
   ⟨some 8, .mv (.t 2), none⟩,
   ⟨some 9, .tas 105 [(.int .i64 0)] (.t 8), none⟩,
   ⟨some 7, .mv (.t 9), none⟩,
   ⟨some 10, .ext (.t 7) 0, none⟩,
   ⟨some 11, .ext (.t 7) 1, none⟩,
   ⟨some 3, .alloc 105 [(.int .i64 0)], none⟩,
   ⟨none, .st 1 (.t 3) (.t 10), none⟩,
   ⟨some 4, .mv (.t 11), none⟩])
 (.seq (.reg [
   ⟨some 12, .mv (.t 4), none⟩])
 (.cond (.t 12) (.seq (.reg [
    ⟨some 5, .mv (.c (.bool false)), none⟩])
  (.drw [
    (⟨some 13, .mv (.t 5), none⟩, []),
    (⟨some 14, .fa (.t 3) 0, none⟩, []),
    (⟨some 15, .ld 1 false (.t 14), none⟩, [1]),
    (⟨none, .st 1 (.t 0) (.t 13), none⟩, [0]),
    (⟨none, .st 1 (.t 1) (.t 15), none⟩, [2, 1, 3, 0])]))
 (.seq (.reg [
    ⟨some 16, .mv (.t 2), none⟩,
    ⟨some 17, .ifn true (.t 16), none⟩])
  (.cond (.t 17) (.reg [
     ⟨some 18, .mv (.t 2), none⟩,
     ⟨none, .pan (.t 18), none⟩])
  .skip)))))⟩
theorem c38 : chkMain Try.prog Try.f38 a38 = true := by kernel_rfl
theorem d38 : chkDef Try.prog Try.f66 a38 = true := by kernel_rfl

/-- besom/fixed.Within$1 -/
def a39 : AFn := ⟨2, (.seq (.reg [
   ⟨some 2, .mv (.c (.bool false)), none⟩])
 (.seq (.reg [
   ⟨some 4, .ld 2 true (.t 0), none⟩,
   ⟨some 5, .call (.f 40) [(.t 4)], none⟩,
   ⟨some 3, .alloc 80 [(.int .u64 0), (.int .u64 0)], none⟩,
   ⟨none, .st 2 (.t 3) (.t 5), none⟩])
 (.seq (.reg [
   ⟨some 6, .ld 1 false (.t 1), none⟩,
   ⟨some 7, .bsl 22 [.int .i64] 1 [(.int .i64 0)] [(0, 1, (.t 6))], none⟩,
   ⟨some 8, .call (.f 41) [(.t 7)], none⟩])
 (.seq (.drw [
   (⟨some 9, .ld 1 false (.t 1), none⟩, []),
   (⟨some 10, .bin .geq (.t 9) (.c (.int .i64 0)), none⟩, [0]),
   (⟨some 11, .mv (.t 10), none⟩, [1, 0]),
   (⟨some 12, .ld 2 true (.t 3), some (11, true)⟩, [2, 1, 0]),
   (⟨some 13, .ld 1 false (.t 1), some (11, true)⟩, [2, 1, 0]),
   (⟨some 14, .call (.f 44) [(.t 13)], some (11, true)⟩, [4, 2, 1, 0]),
   (⟨some 15, .ld 1 false (.t 1), some (11, true)⟩, [2, 1, 0]),
   (⟨some 16, .call (.f 44) [(.t 15)], some (11, true)⟩, [6, 2, 1, 0, 5, 4]),
   (⟨some 17, .call (.f 43) [(.t 14), (.t 16)], some (11, true)⟩, [5, 4, 2, 1, 0, 7, 6]),
   (⟨some 18, .call (.f 42) [(.t 12), (.t 17)], some (11, true)⟩, [3, 2, 1, 0, 8, 5, 4, 7, 6]),
   (⟨some 19, .bin .leq (.t 18) (.c (.int .i64 0)), some (11, true)⟩, [9, 3, 2, 1, 0, 8, 5, 4, 7, 6]),
   (⟨some 20, .pick (.t 11) (.t 19) (.c (.bool false)), none⟩, [2, 1, 0, 10, 9, 3, 8, 5, 4, 7, 6]),
   (⟨some 2, .mv (.t 20), none⟩, [11, 2, 1, 0, 10, 9, 3, 8, 5, 4, 7, 6])])
 .ret)))),
  [.tmp 2]⟩
theorem c39 : chkFn Try.prog Try.f39 a39 = true := by kernel_rfl

/-- besom/fixed.square -/
def a40 : AFn := ⟨1, (.seq (.reg [
   ⟨some 1, .box 24 (.t 0), none⟩,
   ⟨some 2, .alloc 80 [(.int .u64 0), (.int .u64 0)], none⟩])
 (.seq (.reg [
   ⟨some 3, .fa (.t 1) 0, none⟩,
   ⟨some 4, .ld 1 false (.t 3), none⟩,
   ⟨some 5, .fa (.t 1) 1, none⟩,
   ⟨some 6, .ld 1 false (.t 5), none⟩,
   ⟨some 7, .bsl 22 [.int .i64] 2 [(.int .i64 0), (.int .i64 0)] [(0, 1, (.t 4)), (1, 1, (.t 6))], none⟩,
   ⟨some 8, .call (.f 41) [(.t 7)], none⟩])
 (.seq (.drw [
   (⟨some 9, .fa (.t 1) 0, none⟩, []),
   (⟨some 10, .ld 1 false (.t 9), none⟩, [0]),
   (⟨some 11, .call (.f 44) [(.t 10)], none⟩, [1, 0]),
   (⟨some 12, .fa (.t 1) 0, none⟩, []),
   (⟨some 13, .ld 1 false (.t 12), none⟩, [3]),
   (⟨some 14, .call (.f 44) [(.t 13)], none⟩, [4, 3, 2, 1, 0]),
   (⟨some 15, .call (.f 43) [(.t 11), (.t 14)], none⟩, [2, 1, 0, 5, 4, 3]),
   (⟨some 16, .fa (.t 1) 1, none⟩, []),
   (⟨some 17, .ld 1 false (.t 16), none⟩, [7]),
   (⟨some 18, .call (.f 44) [(.t 17)], none⟩, [8, 7, 6, 2, 1, 0, 5, 4, 3]),
   (⟨some 19, .fa (.t 1) 1, none⟩, []),
   (⟨some 20, .ld 1 false (.t 19), none⟩, [10]),
   (⟨some 21, .call (.f 44) [(.t 20)], none⟩, [11, 10, 9, 8, 7, 6, 2, 1, 0, 5, 4, 3]),
   (⟨some 22, .call (.f 43) [(.t 18), (.t 21)], none⟩, [9, 8, 7, 6, 2, 1, 0, 5, 4, 3, 12, 11, 10]),
   (⟨some 23, .call (.f 55) [(.t 15), (.t 22)], none⟩, [6, 2, 1, 0, 5, 4, 3, 13, 9, 8, 7, 12, 11, 10]),
   (⟨none, .st 2 (.t 2) (.t 23), none⟩, [14, 6, 2, 1, 0, 5, 4, 3, 13, 9, 8, 7, 12, 11, 10])])
 .ret))),
  [.cell 2 2 true]⟩
theorem c40 : chkFn Try.prog Try.f40 a40 = true := by kernel_rfl

/-- besom/fixed.right -/
def a41 : AFn := ⟨1, (.seq (.reg [
   ⟨some 4, .mv (.t 0), none⟩,
   ⟨some 5, .len (.t 4), none⟩,
   ⟨some 6, .mv (.c (.int .i64 0)), none⟩])
 (.blk 0 (.loop 0 (.seq (.reg [
    ⟨some 7, .bin .lss (.t 6) (.t 5), none⟩])
  (.seq (.cond (.t 7) .skip
  (.exit 0))
  (.seq (.blk 1 (.seq (.reg [
    ⟨some 8, .ia (.t 4) (.t 6) 1, none⟩,
    ⟨some 9, .ld 1 false (.t 8), none⟩,
    ⟨some 3, .mv (.t 9), none⟩])
  (.reg [
    ⟨some 10, .mv (.t 3), none⟩,
    ⟨some 11, .bin .geq (.t 10) (.c (.int .i64 (-70368744177664))), none⟩,
    ⟨some 12, .mv (.t 11), none⟩,
    ⟨some 13, .mv (.t 3), some (12, true)⟩,
    ⟨some 14, .bin .leq (.t 13) (.c (.int .i64 70368744177664)), some (12, true)⟩,
    ⟨some 15, .pick (.t 12) (.t 14) (.c (.bool false)), none⟩,
    ⟨some 16, .call (.f 47) [(.t 15), (.c (.int .i64 2))], none⟩])))
  (.reg [
    ⟨some 17, .bin .add (.t 6) (.c (.int .i64 1)), none⟩,
    ⟨some 6, .mv (.t 17), none⟩]))))))),
  []⟩
theorem c41 : chkFn Try.prog Try.f41 a41 = true := by kernel_rfl

/-- (besom/fixed.wide).compare -/
def a42 : AFn := ⟨2, (.seq (.reg [
   ⟨some 2, .box 80 (.t 0), none⟩,
   ⟨some 3, .box 80 (.t 1), none⟩,
   ⟨some 4, .mv (.c (.int .i64 0)), none⟩])
 (.seq (.drw [
   (⟨some 5, .fa (.t 2) 0, none⟩, []),
   (⟨some 6, .ld 1 false (.t 5), none⟩, [0]),
   (⟨some 7, .fa (.t 3) 0, none⟩, []),
   (⟨some 8, .ld 1 false (.t 7), none⟩, [2]),
   (⟨some 9, .call (.f 68) [(.t 6), (.t 8)], none⟩, [1, 0, 3, 2]),
   (⟨some 10, .fa (.t 2) 1, none⟩, []),
   (⟨some 11, .ld 1 false (.t 10), none⟩, [5]),
   (⟨some 12, .fa (.t 3) 1, none⟩, []),
   (⟨some 13, .ld 1 false (.t 12), none⟩, [7]),
   (⟨some 14, .call (.f 68) [(.t 11), (.t 13)], none⟩, [6, 5, 8, 7, 4, 1, 0, 3, 2]),
   (⟨some 15, .bsl 3 [.int .i64] 2 [(.int .i64 0), (.int .i64 0)] [(0, 1, (.t 9)), (1, 1, (.t 14))], none⟩, [4, 1, 0, 3, 2, 9, 6, 5, 8, 7]),
   (⟨some 16, .call (.f 67) [(.t 15)], none⟩, [10, 4, 1, 0, 3, 2, 9, 6, 5, 8, 7]),
   (⟨some 4, .mv (.t 16), none⟩, [11, 10, 4, 1, 0, 3, 2, 9, 6, 5, 8, 7])])
 .ret)),
  [.tmp 4]⟩
theorem c42 : chkFn Try.prog Try.f42 a42 = true := by kernel_rfl

/-- besom/fixed.product -/
def a43 : AFn := ⟨2, (.seq (.reg [
   ⟨some 4, .alloc 80 [(.int .u64 0), (.int .u64 0)], none⟩])
 (.seq (.reg [
   ⟨some 8, .mv (.t 0), none⟩,
   ⟨some 9, .mv (.t 1), none⟩,
   ⟨some 10, .call (.f 20) [(.t 8), (.t 9)], none⟩,
   ⟨some 7, .mv (.t 10), none⟩,
   ⟨some 11, .ext (.t 7) 0, none⟩,
   ⟨some 12, .ext (.t 7) 1, none⟩,
   ⟨some 5, .mv (.t 11), none⟩,
   ⟨some 6, .mv (.t 12), none⟩])
 (.seq (.reg [
   ⟨some 13, .mv (.t 5), none⟩,
   ⟨some 14, .mv (.t 6), none⟩,
   ⟨some 15, .bld [(.int .u64 0), (.int .u64 0)] [(0, 1, (.t 13)), (1, 1, (.t 14))], none⟩,
   ⟨none, .st 2 (.t 4) (.t 15), none⟩])
 .ret))),
  [.cell 4 2 true]⟩
theorem c43 : chkFn Try.prog Try.f43 a43 = true := by kernel_rfl

/-- besom/fixed.size[besom/api.Fix] -/
def a44 : AFn := ⟨1, (.seq (.reg [
   ⟨some 2, .mv (.c (.int .u64 0)), none⟩])
 (.seq (.seq (.reg [
   ⟨some 3, .mv (.t 0), none⟩,
   ⟨some 4, .bin .lss (.t 3) (.c (.int .i64 0)), none⟩])
 (.cond (.t 4) (.seq (.reg [
    ⟨some 5, .mv (.t 0), none⟩,
    ⟨some 6, .cv .u64 (.t 5), none⟩,
    ⟨some 7, .neg (.t 6), none⟩,
    ⟨some 2, .mv (.t 7), none⟩])
  .ret)
 .skip))
 (.seq (.reg [
   ⟨some 8, .mv (.t 0), none⟩,
   ⟨some 9, .cv .u64 (.t 8), none⟩,
   ⟨some 2, .mv (.t 9), none⟩])
 .ret))),
  [.tmp 2]⟩
theorem c44 : chkFn Try.prog Try.f44 a44 = true := by kernel_rfl

/-- besom/fixed.tried[besom/api.Spot] -/
def a45 : TFn := ⟨(.reg [
   ⟨some 2, .alloc 24 [(.int .i64 0), (.int .i64 0)], none⟩,
   ⟨some 3, .alloc 30 [(.int .i64 0)], none⟩]), 69, [2, 3], 4,
 (.seq (.reg [
   ⟨some 5, .mv (.t 0), none⟩,
   ⟨some 6, .call (.t 5) [], none⟩,
   ⟨none, .st 2 (.t 2) (.t 6), none⟩,
   ⟨none, .st 1 (.t 3) (.c (.int .i64 0)), none⟩])
 .ret),
  [.cell 2 2 true, .cell 3 1 false], 6, 2,
 (.seq (.reg [
   ⟨some 8, .mv (.t 2), none⟩,
   ⟨some 9, .tas 105 [(.int .i64 0)] (.t 8), none⟩,
   ⟨some 7, .mv (.t 9), none⟩,
   ⟨some 10, .ext (.t 7) 0, none⟩,
   ⟨some 11, .ext (.t 7) 1, none⟩,
   ⟨some 3, .alloc 105 [(.int .i64 0)], none⟩,
   ⟨none, .st 1 (.t 3) (.t 10), none⟩,
   ⟨some 4, .mv (.t 11), none⟩])
 (.seq (.reg [
   ⟨some 12, .mv (.t 4), none⟩])
 (.cond (.t 12) (.seq (.reg [
    ⟨some 5, .alloc 24 [(.int .i64 0), (.int .i64 0)], none⟩])
  (.drw [
    (⟨some 13, .ld 2 true (.t 5), none⟩, []),
    (⟨some 14, .fa (.t 3) 0, none⟩, []),
    (⟨some 15, .ld 1 false (.t 14), none⟩, [1]),
    (⟨none, .st 2 (.t 0) (.t 13), none⟩, [0]),
    (⟨none, .st 1 (.t 1) (.t 15), none⟩, [2, 1, 3, 0])]))
 (.seq (.reg [
    ⟨some 16, .mv (.t 2), none⟩,
    ⟨some 17, .ifn true (.t 16), none⟩])
  (.cond (.t 17) (.reg [
     ⟨some 18, .mv (.t 2), none⟩,
     ⟨none, .pan (.t 18), none⟩])
  .skip)))))⟩
theorem c45 : chkMain Try.prog Try.f45 a45 = true := by kernel_rfl
theorem d45 : chkDef Try.prog Try.f69 a45 = true := by kernel_rfl

/-- besom/fixed.Unit$1 -/
def a46 : AFn := ⟨1, (.seq (.reg [
   ⟨some 1, .alloc 24 [(.int .i64 0), (.int .i64 0)], none⟩])
 (.seq (.reg [
   ⟨some 5, .ld 2 true (.t 0), none⟩,
   ⟨some 6, .call (.f 40) [(.t 5)], none⟩,
   ⟨some 2, .alloc 80 [(.int .u64 0), (.int .u64 0)], none⟩,
   ⟨none, .st 2 (.t 2) (.t 6), none⟩])
 (.seq (.reg [
   ⟨some 7, .ld 2 true (.t 2), none⟩,
   ⟨some 8, .bld [(.int .u64 0), (.int .u64 0)] [], none⟩,
   ⟨some 9, .eqa true [.int .u64, .int .u64] (.t 7) (.t 8), none⟩,
   ⟨some 10, .call (.f 47) [(.t 9), (.c (.int .i64 10))], none⟩])
 (.seq (.reg [
   ⟨some 12, .ld 2 true (.t 0), none⟩,
   ⟨some 13, .ld 2 true (.t 0), none⟩,
   ⟨some 14, .mkf 48 [] [(.t 2)], none⟩,
   ⟨some 15, .call (.f 36) [(.t 12), (.t 13), (.t 14)], none⟩,
   ⟨some 11, .mv (.t 15), none⟩,
   ⟨some 16, .ext (.t 11) 0, none⟩,
   ⟨some 17, .ext (.t 11) 1, none⟩,
   ⟨some 3, .alloc 24 [(.int .i64 0), (.int .i64 0)], none⟩,
   ⟨none, .st 2 (.t 3) (.t 16), none⟩,
   ⟨some 4, .mv (.t 17), none⟩])
 (.seq (.reg [
   ⟨some 18, .ld 2 true (.t 3), none⟩,
   ⟨none, .st 2 (.t 1) (.t 18), none⟩])
 .ret))))),
  [.cell 1 2 true]⟩
theorem c46 : chkFn Try.prog Try.f46 a46 = true := by kernel_rfl

/-- besom/fixed.need -/
def a47 : AFn := ⟨2, (.seq (.reg [
   ⟨some 4, .mv (.t 0), none⟩,
   ⟨some 5, .not (.t 4), none⟩])
 (.cond (.t 5) (.reg [
    ⟨some 6, .mv (.t 1), none⟩,
    ⟨some 7, .bld [(.int .i64 0)] [(0, 1, (.t 6))], none⟩,
    ⟨some 8, .mki 105 (.t 7), none⟩,
    ⟨none, .pan (.t 8), none⟩])
 .skip)),
  []⟩
theorem c47 : chkFn Try.prog Try.f47 a47 = true := by kernel_rfl

/-- besom/fixed.Unit$1$1 -/
def a48 : AFn := ⟨3, (.seq (.reg [
   ⟨some 5, .mv (.c (.int .i64 0)), none⟩])
 (.seq (.drw [
   (⟨some 6, .mv (.t 0), none⟩, []),
   (⟨some 7, .call (.f 44) [(.t 6)], none⟩, [0]),
   (⟨some 8, .ld 2 true (.t 2), none⟩, []),
   (⟨some 9, .call (.f 50) [(.t 7), (.t 8)], none⟩, [1, 0, 2]),
   (⟨some 10, .mv (.t 0), none⟩, []),
   (⟨some 11, .bin .lss (.t 10) (.c (.int .i64 0)), none⟩, [4]),
   (⟨some 12, .call (.f 49) [(.t 9), (.t 11)], none⟩, [3, 1, 0, 2, 5, 4]),
   (⟨some 5, .mv (.t 12), none⟩, [6, 3, 1, 0, 2, 5, 4])])
 .ret)),
  [.tmp 5]⟩
theorem c48 : chkFn Try.prog Try.f48 a48 = true := by kernel_rfl

/-- besom/fixed.signed -/
def a49 : AFn := ⟨2, (.seq (.reg [
   ⟨some 4, .mv (.c (.int .i64 0)), none⟩])
 (.seq (.reg [
   ⟨some 5, .mv (.t 0), none⟩,
   ⟨some 6, .bin .leq (.t 5) (.c (.int .u64 70368744177664)), none⟩,
   ⟨some 7, .call (.f 47) [(.t 6), (.c (.int .i64 4))], none⟩])
 (.seq (.seq (.reg [
   ⟨some 8, .mv (.t 1), none⟩])
 (.cond (.t 8) (.seq (.reg [
    ⟨some 9, .mv (.t 0), none⟩,
    ⟨some 10, .cv .i64 (.t 9), none⟩,
    ⟨some 11, .neg (.t 10), none⟩,
    ⟨some 4, .mv (.t 11), none⟩])
  .ret)
 .skip))
 (.seq (.reg [
   ⟨some 12, .mv (.t 0), none⟩,
   ⟨some 13, .cv .i64 (.t 12), none⟩,
   ⟨some 4, .mv (.t 13), none⟩])
 .ret)))),
  [.tmp 4]⟩
theorem c49 : chkFn Try.prog Try.f49 a49 = true := by kernel_rfl

/-- besom/fixed.share -/
def a50 : AFn := ⟨2, (.seq (.reg [
   ⟨some 3, .box 80 (.t 1), none⟩,
   ⟨some 4, .mv (.c (.int .u64 0)), none⟩])
 (.seq (.reg [
   ⟨some 5, .mv (.c (.int .u64 0)), none⟩])
 (.seq (.seq (.reg [
   ⟨some 6, .mv (.c (.int .u64 65536)), none⟩])
 (.blk 0 (.loop 0 (.seq (.seq (.reg [
    ⟨some 8, .mv (.t 6), none⟩,
    ⟨some 9, .bin .gtr (.t 8) (.c (.int .u64 0)), none⟩])
  (.cond (.t 9) .skip
  (.exit 0)))
  (.seq (.blk 1 (.seq (.reg [
    ⟨some 12, .mv (.t 5), none⟩,
    ⟨some 13, .mv (.t 6), none⟩,
    ⟨some 14, .bin .or (.t 12) (.t 13), none⟩,
    ⟨some 7, .mv (.t 14), none⟩])
  (.seq (.reg [
    ⟨some 15, .mv (.t 7), none⟩,
    ⟨some 16, .bin .leq (.t 15) (.c (.int .u64 65536)), none⟩,
    ⟨some 17, .mv (.t 16), none⟩,
    ⟨some 18, .mv (.t 7), some (17, true)⟩,
    ⟨some 19, .ld 2 true (.t 3), some (17, true)⟩,
    ⟨some 20, .mv (.t 0), some (17, true)⟩,
    ⟨some 21, .call (.f 70) [(.t 18), (.t 19), (.t 20)], some (17, true)⟩,
    ⟨some 22, .pick (.t 17) (.t 21) (.c (.bool false)), none⟩])
  (.cond (.t 22) (.reg [
     ⟨some 23, .mv (.t 7), none⟩,
     ⟨some 5, .mv (.t 23), none⟩])
  .skip))))
  (.reg [
    ⟨some 10, .mv (.t 6), none⟩,
    ⟨some 11, .bin .shr (.t 10) (.c (.int .u64 1)), none⟩,
    ⟨some 6, .mv (.t 11), none⟩]))))))
 (.seq (.reg [
   ⟨some 24, .mv (.t 5), none⟩,
   ⟨some 4, .mv (.t 24), none⟩])
 .ret)))),
  [.tmp 4]⟩
theorem c50 : chkFn Try.prog Try.f50 a50 = true := by kernel_rfl

/-- besom/fixed.tried[besom/api.Fix] -/
def a51 : TFn := ⟨(.reg [
   ⟨some 2, .alloc 22 [(.int .i64 0)], none⟩,
   ⟨some 3, .alloc 30 [(.int .i64 0)], none⟩]), 71, [2, 3], 4,
 (.seq (.reg [
   ⟨some 5, .mv (.t 0), none⟩,
   ⟨some 6, .call (.t 5) [], none⟩,
   ⟨none, .st 1 (.t 2) (.t 6), none⟩,
   ⟨none, .st 1 (.t 3) (.c (.int .i64 0)), none⟩])
 .ret),
  [.cell 2 1 false, .cell 3 1 false], 6, 2,
 (.seq (.reg [
   ⟨some 8, .mv (.t 2), none⟩,
   ⟨some 9, .tas 105 [(.int .i64 0)] (.t 8), none⟩,
   ⟨some 7, .mv (.t 9), none⟩,
   ⟨some 10, .ext (.t 7) 0, none⟩,
   ⟨some 11, .ext (.t 7) 1, none⟩,
   ⟨some 3, .alloc 105 [(.int .i64 0)], none⟩,
   ⟨none, .st 1 (.t 3) (.t 10), none⟩,
   ⟨some 4, .mv (.t 11), none⟩])
 (.seq (.reg [
   ⟨some 12, .mv (.t 4), none⟩])
 (.cond (.t 12) (.seq (.reg [
    ⟨some 5, .mv (.c (.int .i64 0)), none⟩])
  (.drw [
    (⟨some 13, .mv (.t 5), none⟩, []),
    (⟨some 14, .fa (.t 3) 0, none⟩, []),
    (⟨some 15, .ld 1 false (.t 14), none⟩, [1]),
    (⟨none, .st 1 (.t 0) (.t 13), none⟩, [0]),
    (⟨none, .st 1 (.t 1) (.t 15), none⟩, [2, 1, 3, 0])]))
 (.seq (.reg [
    ⟨some 16, .mv (.t 2), none⟩,
    ⟨some 17, .ifn true (.t 16), none⟩])
  (.cond (.t 17) (.reg [
     ⟨some 18, .mv (.t 2), none⟩,
     ⟨none, .pan (.t 18), none⟩])
  .skip)))))⟩
theorem c51 : chkMain Try.prog Try.f51 a51 = true := by kernel_rfl
theorem d51 : chkDef Try.prog Try.f71 a51 = true := by kernel_rfl

/-- besom/fixed.Dot$1 -/
def a52 : AFn := ⟨3, (.seq (.reg [
   ⟨some 3, .mv (.c (.int .i64 0)), none⟩])
 (.seq (.reg [
   ⟨some 9, .fa (.t 0) 0, none⟩,
   ⟨some 10, .ld 1 false (.t 9), none⟩,
   ⟨some 11, .fa (.t 0) 1, none⟩,
   ⟨some 12, .ld 1 false (.t 11), none⟩,
   ⟨some 13, .fa (.t 1) 0, none⟩,
   ⟨some 14, .ld 1 false (.t 13), none⟩,
   ⟨some 15, .fa (.t 1) 1, none⟩,
   ⟨some 16, .ld 1 false (.t 15), none⟩,
   ⟨some 17, .bsl 22 [.int .i64] 4 [(.int .i64 0), (.int .i64 0), (.int .i64 0), (.int .i64 0)] [(0, 1, (.t 10)), (1, 1, (.t 12)), (2, 1, (.t 14)), (3, 1, (.t 16))], none⟩,
   ⟨some 18, .call (.f 41) [(.t 17)], none⟩])
 (.seq (.reg [
   ⟨some 19, .ld 1 false (.t 2), none⟩,
   ⟨some 20, .call (.f 53) [(.t 19)], none⟩,
   ⟨some 4, .mv (.t 20), none⟩])
 (.seq (.drw [
   (⟨some 21, .fa (.t 0) 0, none⟩, []),
   (⟨some 22, .ld 1 false (.t 21), none⟩, [0]),
   (⟨some 23, .call (.f 44) [(.t 22)], none⟩, [1, 0]),
   (⟨some 24, .fa (.t 1) 0, none⟩, []),
   (⟨some 25, .ld 1 false (.t 24), none⟩, [3]),
   (⟨some 26, .call (.f 44) [(.t 25)], none⟩, [4, 3, 2, 1, 0]),
   (⟨some 27, .call (.f 43) [(.t 23), (.t 26)], none⟩, [2, 1, 0, 5, 4, 3]),
   (⟨some 28, .fa (.t 0) 1, none⟩, []),
   (⟨some 29, .ld 1 false (.t 28), none⟩, [7]),
   (⟨some 30, .call (.f 44) [(.t 29)], none⟩, [8, 7, 6, 2, 1, 0, 5, 4, 3]),
   (⟨some 31, .fa (.t 1) 1, none⟩, []),
   (⟨some 32, .ld 1 false (.t 31), none⟩, [10]),
   (⟨some 33, .call (.f 44) [(.t 32)], none⟩, [11, 10, 9, 8, 7, 6, 2, 1, 0, 5, 4, 3]),
   (⟨some 34, .call (.f 43) [(.t 30), (.t 33)], none⟩, [9, 8, 7, 6, 2, 1, 0, 5, 4, 3, 12, 11, 10]),
   (⟨some 5, .alloc 80 [(.int .u64 0), (.int .u64 0)], none⟩, []),
   (⟨some 6, .alloc 80 [(.int .u64 0), (.int .u64 0)], none⟩, []),
   (⟨none, .st 2 (.t 5) (.t 27), none⟩, [14, 6, 2, 1, 0, 5, 4, 3, 13, 9, 8, 7, 12, 11, 10, 15]),
   (⟨none, .st 2 (.t 6) (.t 34), none⟩, [15, 13, 9, 8, 7, 6, 2, 1, 0, 5, 4, 3, 12, 11, 10, 16, 14])])
 (.seq (.drw [
   (⟨some 35, .fa (.t 0) 0, none⟩, []),
   (⟨some 36, .ld 1 false (.t 35), none⟩, [0]),
   (⟨some 37, .bin .lss (.t 36) (.c (.int .i64 0)), none⟩, [1, 0]),
   (⟨some 38, .fa (.t 1) 0, none⟩, []),
   (⟨some 39, .ld 1 false (.t 38), none⟩, [3]),
   (⟨some 40, .bin .lss (.t 39) (.c (.int .i64 0)), none⟩, [4, 3]),
   (⟨some 41, .binb true (.t 37) (.t 40), none⟩, [2, 1, 0, 5, 4, 3]),
   (⟨some 42, .fa (.t 0) 1, none⟩, []),
   (⟨some 43, .ld 1 false (.t 42), none⟩, [7]),
   (⟨some 44, .bin .lss (.t 43) (.c (.int .i64 0)), none⟩, [8, 7]),
   (⟨some 45, .fa (.t 1) 1, none⟩, []),
   (⟨some 46, .ld 1 false (.t 45), none⟩, [10]),
   (⟨some 47, .bin .lss (.t 46) (.c (.int .i64 0)), none⟩, [11, 10]),
   (⟨some 48, .binb true (.t 44) (.t 47), none⟩, [9, 8, 7, 12, 11, 10]),
   (⟨some 7, .mv (.t 41), none⟩, [6, 2, 1, 0, 5, 4, 3]),
   (⟨some 8, .mv (.t 48), none⟩, [13, 9, 8, 7, 12, 11, 10, 14, 6, 2, 1, 0, 5, 4, 3])])
 (.seq (.blk 0 (.seq (.reg [
   ⟨some 50, .mv (.t 7), none⟩,
   ⟨some 51, .mv (.t 8), none⟩,
   ⟨some 52, .binb false (.t 50) (.t 51), none⟩,
   ⟨some 49, .mv (.t 52), none⟩])
 (.cond (.t 49) (.seq (.reg [
    ⟨some 53, .ld 2 true (.t 5), none⟩,
    ⟨some 54, .ld 2 true (.t 6), none⟩,
    ⟨some 55, .call (.f 55) [(.t 53), (.t 54)], none⟩,
    ⟨some 56, .mv (.t 7), none⟩,
    ⟨some 57, .mv (.t 4), none⟩,
    ⟨some 58, .call (.f 54) [(.t 55), (.c (.int .u64 65536)), (.t 56), (.t 57)], none⟩,
    ⟨some 3, .mv (.t 58), none⟩])
  .ret)
 (.seq (.reg [
    ⟨some 60, .ld 2 true (.t 5), none⟩,
    ⟨some 61, .ld 2 true (.t 6), none⟩,
    ⟨some 62, .call (.f 42) [(.t 60), (.t 61)], none⟩,
    ⟨some 63, .bin .geq (.t 62) (.c (.int .i64 0)), none⟩,
    ⟨some 59, .mv (.t 63), none⟩])
  (.cond (.t 59) (.seq (.reg [
     ⟨some 64, .ld 2 true (.t 5), none⟩,
     ⟨some 65, .ld 2 true (.t 6), none⟩,
     ⟨some 66, .call (.f 56) [(.t 64), (.t 65)], none⟩,
     ⟨some 67, .mv (.t 7), none⟩,
     ⟨some 68, .mv (.t 4), none⟩,
     ⟨some 69, .call (.f 54) [(.t 66), (.c (.int .u64 65536)), (.t 67), (.t 68)], none⟩,
     ⟨some 3, .mv (.t 69), none⟩])
   .ret)
  .skip)))))
 (.seq (.reg [
   ⟨some 70, .ld 2 true (.t 6), none⟩,
   ⟨some 71, .ld 2 true (.t 5), none⟩,
   ⟨some 72, .call (.f 56) [(.t 70), (.t 71)], none⟩,
   ⟨some 73, .mv (.t 8), none⟩,
   ⟨some 74, .mv (.t 4), none⟩,
   ⟨some 75, .call (.f 54) [(.t 72), (.c (.int .u64 65536)), (.t 73), (.t 74)], none⟩,
   ⟨some 3, .mv (.t 75), none⟩])
 .ret))))))),
  [.tmp 3]⟩
theorem c52 : chkFn Try.prog Try.f52 a52 = true := by kernel_rfl

/-- besom/fixed.ways -/
def a53 : AFn := ⟨1, (.seq (.reg [
   ⟨some 2, .mv (.c .nfn), none⟩])
 (.seq (.seq (.reg [
   ⟨some 3, .mv (.t 0), none⟩])
 (.blk 0 (.seq (.reg [
   ⟨some 5, .bin .eql (.t 3) (.c (.int .i64 0)), none⟩,
   ⟨some 4, .mv (.t 5), none⟩])
 (.cond (.t 4) (.seq (.reg [
    ⟨some 2, .mv (.f 72), none⟩])
  .ret)
 (.seq (.reg [
    ⟨some 7, .bin .eql (.t 3) (.c (.int .i64 1)), none⟩,
    ⟨some 6, .mv (.t 7), none⟩])
  (.cond (.t 6) (.seq (.reg [
     ⟨some 2, .mv (.f 73), none⟩])
   .ret)
  (.seq (.reg [
     ⟨some 9, .bin .eql (.t 3) (.c (.int .i64 2)), none⟩,
     ⟨some 8, .mv (.t 9), none⟩])
   (.cond (.t 8) (.seq (.reg [
      ⟨some 2, .mv (.f 74), none⟩])
    .ret)
   (.seq (.reg [
      ⟨some 11, .bin .eql (.t 3) (.c (.int .i64 3)), none⟩,
      ⟨some 10, .mv (.t 11), none⟩])
    (.cond (.t 10) (.seq (.reg [
       ⟨some 2, .mv (.f 75), none⟩])
     .ret)
    .skip))))))))))
 (.reg [
   ⟨some 12, .bld [(.int .i64 0)] [(0, 1, (.c (.int .i64 2)))], none⟩,
   ⟨some 13, .mki 105 (.t 12), none⟩,
   ⟨none, .pan (.t 13), none⟩]))),
  [.tmp 2]⟩
theorem c53 : chkFn Try.prog Try.f53 a53 = true := by kernel_rfl

/-- besom/fixed.quotient -/
def a54 : AFn := ⟨4, (.seq (.reg [
   ⟨some 4, .box 80 (.t 0), none⟩,
   ⟨some 8, .mv (.c (.int .i64 0)), none⟩])
 (.seq (.reg [
   ⟨some 13, .ld 2 true (.t 4), none⟩,
   ⟨some 14, .mv (.t 1), none⟩,
   ⟨some 15, .call (.f 76) [(.t 13), (.t 14)], none⟩,
   ⟨some 12, .mv (.t 15), none⟩,
   ⟨some 16, .ext (.t 12) 0, none⟩,
   ⟨some 17, .ext (.t 12) 1, none⟩,
   ⟨some 18, .ext (.t 12) 2, none⟩,
   ⟨some 9, .mv (.t 16), none⟩,
   ⟨some 10, .mv (.t 17), none⟩,
   ⟨some 11, .mv (.t 18), none⟩])
 (.seq (.reg [
   ⟨some 19, .mv (.t 11), none⟩,
   ⟨some 20, .mv (.t 19), none⟩,
   ⟨some 21, .mv (.t 9), some (20, true)⟩,
   ⟨some 22, .bin .lss (.t 21) (.c (.int .u64 9223372036854775808)), some (20, true)⟩,
   ⟨some 23, .pick (.t 20) (.t 22) (.c (.bool false)), none⟩,
   ⟨some 24, .call (.f 47) [(.t 23), (.c (.int .i64 4))], none⟩])
 (.seq (.seq (.reg [
   ⟨some 25, .mv (.t 10), none⟩,
   ⟨some 26, .bin .gtr (.t 25) (.c (.int .u64 0)), none⟩,
   ⟨some 27, .mv (.t 26), none⟩,
   ⟨some 28, .mv (.t 3), some (27, true)⟩,
   ⟨some 29, .mv (.t 10), some (27, true)⟩,
   ⟨some 30, .bld [(.int .u64 0), (.int .u64 0)] [(1, 1, (.t 29))], some (27, true)⟩,
   ⟨some 31, .mv (.t 10), some (27, true)⟩,
   ⟨some 32, .bld [(.int .u64 0), (.int .u64 0)] [(1, 1, (.t 31))], some (27, true)⟩,
   ⟨some 33, .call (.f 55) [(.t 30), (.t 32)], some (27, true)⟩,
   ⟨some 34, .mv (.t 1), some (27, true)⟩,
   ⟨some 35, .bld [(.int .u64 0), (.int .u64 0)] [(1, 1, (.t 34))], some (27, true)⟩,
   ⟨some 36, .call (.f 42) [(.t 33), (.t 35)], some (27, true)⟩,
   ⟨some 37, .mv (.t 2), some (27, true)⟩,
   ⟨some 38, .call (.t 28) [(.t 36), (.t 37)], some (27, true)⟩,
   ⟨some 39, .pick (.t 27) (.t 38) (.c (.bool false)), none⟩])
 (.cond (.t 39) (.reg [
    ⟨some 40, .mv (.t 9), none⟩,
    ⟨some 41, .bin .add (.t 40) (.c (.int .u64 1)), none⟩,
    ⟨some 9, .mv (.t 41), none⟩])
 .skip))
 (.seq (.reg [
   ⟨some 42, .mv (.t 9), none⟩,
   ⟨some 43, .mv (.t 2), none⟩,
   ⟨some 44, .call (.f 49) [(.t 42), (.t 43)], none⟩,
   ⟨some 8, .mv (.t 44), none⟩])
 .ret))))),
  [.tmp 8]⟩
theorem c54 : chkFn Try.prog Try.f54 a54 = true := by kernel_rfl

/-- (besom/fixed.wide).plus -/
def a55 : AFn := ⟨2, (.seq (.reg [
   ⟨some 2, .box 80 (.t 0), none⟩,
   ⟨some 3, .box 80 (.t 1), none⟩,
   ⟨some 4, .alloc 80 [(.int .u64 0), (.int .u64 0)], none⟩])
 (.seq (.reg [
   ⟨some 10, .fa (.t 2) 1, none⟩,
   ⟨some 11, .ld 1 false (.t 10), none⟩,
   ⟨some 12, .fa (.t 3) 1, none⟩,
   ⟨some 13, .ld 1 false (.t 12), none⟩,
   ⟨some 14, .call (.f 8) [(.t 11), (.t 13), (.c (.int .u64 0))], none⟩,
   ⟨some 9, .mv (.t 14), none⟩,
   ⟨some 15, .ext (.t 9) 0, none⟩,
   ⟨some 16, .ext (.t 9) 1, none⟩,
   ⟨some 5, .mv (.t 15), none⟩,
   ⟨some 6, .mv (.t 16), none⟩])
 (.seq (.reg [
   ⟨some 18, .fa (.t 2) 0, none⟩,
   ⟨some 19, .ld 1 false (.t 18), none⟩,
   ⟨some 20, .fa (.t 3) 0, none⟩,
   ⟨some 21, .ld 1 false (.t 20), none⟩,
   ⟨some 22, .mv (.t 6), none⟩,
   ⟨some 23, .call (.f 8) [(.t 19), (.t 21), (.t 22)], none⟩,
   ⟨some 17, .mv (.t 23), none⟩,
   ⟨some 24, .ext (.t 17) 0, none⟩,
   ⟨some 25, .ext (.t 17) 1, none⟩,
   ⟨some 7, .mv (.t 24), none⟩,
   ⟨some 8, .mv (.t 25), none⟩])
 (.seq (.reg [
   ⟨some 26, .mv (.t 7), none⟩,
   ⟨some 27, .mv (.t 5), none⟩,
   ⟨some 28, .bld [(.int .u64 0), (.int .u64 0)] [(0, 1, (.t 26)), (1, 1, (.t 27))], none⟩,
   ⟨none, .st 2 (.t 4) (.t 28), none⟩])
 .ret)))),
  [.cell 4 2 true]⟩
theorem c55 : chkFn Try.prog Try.f55 a55 = true := by kernel_rfl

/-- (besom/fixed.wide).minus -/
def a56 : AFn := ⟨2, (.seq (.reg [
   ⟨some 2, .box 80 (.t 0), none⟩,
   ⟨some 3, .box 80 (.t 1), none⟩,
   ⟨some 4, .alloc 80 [(.int .u64 0), (.int .u64 0)], none⟩])
 (.seq (.reg [
   ⟨some 10, .fa (.t 2) 1, none⟩,
   ⟨some 11, .ld 1 false (.t 10), none⟩,
   ⟨some 12, .fa (.t 3) 1, none⟩,
   ⟨some 13, .ld 1 false (.t 12), none⟩,
   ⟨some 14, .call (.f 77) [(.t 11), (.t 13), (.c (.int .u64 0))], none⟩,
   ⟨some 9, .mv (.t 14), none⟩,
   ⟨some 15, .ext (.t 9) 0, none⟩,
   ⟨some 16, .ext (.t 9) 1, none⟩,
   ⟨some 5, .mv (.t 15), none⟩,
   ⟨some 6, .mv (.t 16), none⟩])
 (.seq (.reg [
   ⟨some 18, .fa (.t 2) 0, none⟩,
   ⟨some 19, .ld 1 false (.t 18), none⟩,
   ⟨some 20, .fa (.t 3) 0, none⟩,
   ⟨some 21, .ld 1 false (.t 20), none⟩,
   ⟨some 22, .mv (.t 6), none⟩,
   ⟨some 23, .call (.f 77) [(.t 19), (.t 21), (.t 22)], none⟩,
   ⟨some 17, .mv (.t 23), none⟩,
   ⟨some 24, .ext (.t 17) 0, none⟩,
   ⟨some 25, .ext (.t 17) 1, none⟩,
   ⟨some 7, .mv (.t 24), none⟩,
   ⟨some 8, .mv (.t 25), none⟩])
 (.seq (.reg [
   ⟨some 26, .mv (.t 7), none⟩,
   ⟨some 27, .mv (.t 5), none⟩,
   ⟨some 28, .bld [(.int .u64 0), (.int .u64 0)] [(0, 1, (.t 26)), (1, 1, (.t 27))], none⟩,
   ⟨none, .st 2 (.t 4) (.t 28), none⟩])
 .ret)))),
  [.cell 4 2 true]⟩
theorem c56 : chkFn Try.prog Try.f56 a56 = true := by kernel_rfl

/-- besom/fixed.tried[besom/fixed.rounding] -/
def a57 : TFn := ⟨(.reg [
   ⟨some 2, .alloc 93 [.nfn], none⟩,
   ⟨some 3, .alloc 30 [(.int .i64 0)], none⟩]), 78, [2, 3], 4,
 (.seq (.reg [
   ⟨some 5, .mv (.t 0), none⟩,
   ⟨some 6, .call (.t 5) [], none⟩,
   ⟨none, .st 1 (.t 2) (.t 6), none⟩,
   ⟨none, .st 1 (.t 3) (.c (.int .i64 0)), none⟩])
 .ret),
  [.cell 2 1 false, .cell 3 1 false], 6, 2,
 (.seq (.reg [
   ⟨some 8, .mv (.t 2), none⟩,
   ⟨some 9, .tas 105 [(.int .i64 0)] (.t 8), none⟩,
   ⟨some 7, .mv (.t 9), none⟩,
   ⟨some 10, .ext (.t 7) 0, none⟩,
   ⟨some 11, .ext (.t 7) 1, none⟩,
   ⟨some 3, .alloc 105 [(.int .i64 0)], none⟩,
   ⟨none, .st 1 (.t 3) (.t 10), none⟩,
   ⟨some 4, .mv (.t 11), none⟩])
 (.seq (.reg [
   ⟨some 12, .mv (.t 4), none⟩])
 (.cond (.t 12) (.seq (.reg [
    ⟨some 5, .mv (.c .nfn), none⟩])
  (.drw [
    (⟨some 13, .mv (.t 5), none⟩, []),
    (⟨some 14, .fa (.t 3) 0, none⟩, []),
    (⟨some 15, .ld 1 false (.t 14), none⟩, [1]),
    (⟨none, .st 1 (.t 0) (.t 13), none⟩, [0]),
    (⟨none, .st 1 (.t 1) (.t 15), none⟩, [2, 1, 3, 0])]))
 (.seq (.reg [
    ⟨some 16, .mv (.t 2), none⟩,
    ⟨some 17, .ifn true (.t 16), none⟩])
  (.cond (.t 17) (.reg [
     ⟨some 18, .mv (.t 2), none⟩,
     ⟨none, .pan (.t 18), none⟩])
  .skip)))))⟩
theorem c57 : chkMain Try.prog Try.f57 a57 = true := by kernel_rfl
theorem d57 : chkDef Try.prog Try.f78 a57 = true := by kernel_rfl

/-- besom/fixed.Times$1 -/
def a58 : AFn := ⟨3, (.seq (.reg [
   ⟨some 3, .mv (.c .nfn), none⟩])
 (.seq (.reg [
   ⟨some 4, .fa (.t 0) 0, none⟩,
   ⟨some 5, .ld 1 false (.t 4), none⟩,
   ⟨some 6, .fa (.t 0) 1, none⟩,
   ⟨some 7, .ld 1 false (.t 6), none⟩,
   ⟨some 8, .ld 1 false (.t 1), none⟩,
   ⟨some 9, .bsl 22 [.int .i64] 3 [(.int .i64 0), (.int .i64 0), (.int .i64 0)] [(0, 1, (.t 5)), (1, 1, (.t 7)), (2, 1, (.t 8))], none⟩,
   ⟨some 10, .call (.f 41) [(.t 9)], none⟩])
 (.seq (.reg [
   ⟨some 11, .ld 1 false (.t 2), none⟩,
   ⟨some 12, .call (.f 53) [(.t 11)], none⟩,
   ⟨some 3, .mv (.t 12), none⟩])
 .ret))),
  [.tmp 3]⟩
theorem c58 : chkFn Try.prog Try.f58 a58 = true := by kernel_rfl

/-- besom/fixed.Times$2 -/
def a59 : AFn := ⟨4, (.seq (.reg [
   ⟨some 6, .mv (.c (.int .i64 0)), none⟩])
 (.seq (.reg [
   ⟨some 7, .mv (.t 0), none⟩,
   ⟨some 8, .ld 1 false (.t 2), none⟩,
   ⟨some 9, .ld 1 false (.t 3), none⟩,
   ⟨some 10, .call (.f 60) [(.t 7), (.t 8), (.t 9)], none⟩,
   ⟨some 6, .mv (.t 10), none⟩])
 .ret)),
  [.tmp 6]⟩
theorem c59 : chkFn Try.prog Try.f59 a59 = true := by kernel_rfl

/-- besom/fixed.mul -/
def a60 : AFn := ⟨3, (.seq (.reg [
   ⟨some 6, .mv (.c (.int .i64 0)), none⟩])
 (.seq (.reg [
   ⟨some 7, .mv (.t 0), none⟩,
   ⟨some 8, .mv (.t 1), none⟩,
   ⟨some 9, .bsl 22 [.int .i64] 2 [(.int .i64 0), (.int .i64 0)] [(0, 1, (.t 7)), (1, 1, (.t 8))], none⟩,
   ⟨some 10, .call (.f 41) [(.t 9)], none⟩])
 (.seq (.reg [
   ⟨some 11, .mv (.t 0), none⟩,
   ⟨some 12, .call (.f 44) [(.t 11)], none⟩,
   ⟨some 13, .mv (.t 1), none⟩,
   ⟨some 14, .call (.f 44) [(.t 13)], none⟩,
   ⟨some 15, .call (.f 43) [(.t 12), (.t 14)], none⟩,
   ⟨some 16, .mv (.t 0), none⟩,
   ⟨some 17, .bin .lss (.t 16) (.c (.int .i64 0)), none⟩,
   ⟨some 18, .mv (.t 1), none⟩,
   ⟨some 19, .bin .lss (.t 18) (.c (.int .i64 0)), none⟩,
   ⟨some 20, .binb true (.t 17) (.t 19), none⟩,
   ⟨some 21, .mv (.t 2), none⟩,
   ⟨some 22, .call (.f 54) [(.t 15), (.c (.int .u64 65536)), (.t 20), (.t 21)], none⟩,
   ⟨some 6, .mv (.t 22), none⟩])
 .ret))),
  [.tmp 6]⟩
theorem c60 : chkFn Try.prog Try.f60 a60 = true := by kernel_rfl

/-- besom/fixed.Scale$1 -/
def a61 : AFn := ⟨4, (.seq (.reg [
   ⟨some 4, .mv (.c (.int .i64 0)), none⟩])
 (.seq (.reg [
   ⟨some 6, .ld 1 false (.t 0), none⟩,
   ⟨some 7, .bsl 22 [.int .i64] 1 [(.int .i64 0)] [(0, 1, (.t 6))], none⟩,
   ⟨some 8, .call (.f 41) [(.t 7)], none⟩])
 (.seq (.reg [
   ⟨some 9, .ld 1 false (.t 1), none⟩,
   ⟨some 10, .call (.f 53) [(.t 9)], none⟩,
   ⟨some 5, .mv (.t 10), none⟩])
 (.seq (.reg [
   ⟨some 11, .ld 1 false (.t 2), none⟩,
   ⟨some 12, .bin .geq (.t 11) (.c (.int .i64 (-2147483648))), none⟩,
   ⟨some 13, .mv (.t 12), none⟩,
   ⟨some 14, .ld 1 false (.t 2), some (13, true)⟩,
   ⟨some 15, .bin .leq (.t 14) (.c (.int .i64 2147483648)), some (13, true)⟩,
   ⟨some 16, .pick (.t 13) (.t 15) (.c (.bool false)), none⟩,
   ⟨some 17, .mv (.t 16), none⟩,
   ⟨some 18, .ld 1 false (.t 3), some (17, true)⟩,
   ⟨some 19, .bin .geq (.t 18) (.c (.int .i64 (-2147483648))), some (17, true)⟩,
   ⟨some 20, .pick (.t 17) (.t 19) (.c (.bool false)), none⟩,
   ⟨some 21, .mv (.t 20), none⟩,
   ⟨some 22, .ld 1 false (.t 3), some (21, true)⟩,
   ⟨some 23, .bin .leq (.t 22) (.c (.int .i64 2147483648)), some (21, true)⟩,
   ⟨some 24, .pick (.t 21) (.t 23) (.c (.bool false)), none⟩,
   ⟨some 25, .call (.f 47) [(.t 24), (.c (.int .i64 2))], none⟩])
 (.seq (.reg [
   ⟨some 26, .ld 1 false (.t 3), none⟩,
   ⟨some 27, .bin .neq (.t 26) (.c (.int .i64 0)), none⟩,
   ⟨some 28, .call (.f 47) [(.t 27), (.c (.int .i64 10))], none⟩])
 (.seq (.drw [
   (⟨some 29, .ld 1 false (.t 0), none⟩, []),
   (⟨some 30, .call (.f 44) [(.t 29)], none⟩, [0]),
   (⟨some 31, .ld 1 false (.t 2), none⟩, []),
   (⟨some 32, .call (.f 62) [(.t 31)], none⟩, [2, 1, 0]),
   (⟨some 33, .call (.f 43) [(.t 30), (.t 32)], none⟩, [1, 0, 3, 2]),
   (⟨some 34, .ld 1 false (.t 3), none⟩, []),
   (⟨some 35, .call (.f 62) [(.t 34)], none⟩, [5, 4, 1, 0, 3, 2]),
   (⟨some 36, .ld 1 false (.t 0), none⟩, []),
   (⟨some 37, .bin .lss (.t 36) (.c (.int .i64 0)), none⟩, [7]),
   (⟨some 38, .ld 1 false (.t 2), none⟩, []),
   (⟨some 39, .bin .lss (.t 38) (.c (.int .i64 0)), none⟩, [9]),
   (⟨some 40, .ld 1 false (.t 3), none⟩, []),
   (⟨some 41, .bin .lss (.t 40) (.c (.int .i64 0)), none⟩, [11]),
   (⟨some 42, .binb true (.t 39) (.t 41), none⟩, [10, 9, 12, 11]),
   (⟨some 43, .binb true (.t 37) (.t 42), none⟩, [8, 7, 13, 10, 9, 12, 11]),
   (⟨some 44, .mv (.t 5), none⟩, []),
   (⟨some 45, .call (.f 54) [(.t 33), (.t 35), (.t 43), (.t 44)], none⟩, [4, 1, 0, 3, 2, 6, 5, 14, 8, 7, 13, 10, 9, 12, 11, 15]),
   (⟨some 4, .mv (.t 45), none⟩, [16, 4, 1, 0, 3, 2, 6, 5, 14, 8, 7, 13, 10, 9, 12, 11, 15])])
 .ret)))))),
  [.tmp 4]⟩
theorem c61 : chkFn Try.prog Try.f61 a61 = true := by kernel_rfl

/-- besom/fixed.size[int] -/
def a62 : AFn := ⟨1, (.seq (.reg [
   ⟨some 2, .mv (.c (.int .u64 0)), none⟩])
 (.seq (.seq (.reg [
   ⟨some 3, .mv (.t 0), none⟩,
   ⟨some 4, .bin .lss (.t 3) (.c (.int .i64 0)), none⟩])
 (.cond (.t 4) (.seq (.reg [
    ⟨some 5, .mv (.t 0), none⟩,
    ⟨some 6, .cv .u64 (.t 5), none⟩,
    ⟨some 7, .neg (.t 6), none⟩,
    ⟨some 2, .mv (.t 7), none⟩])
  .ret)
 .skip))
 (.seq (.reg [
   ⟨some 8, .mv (.t 0), none⟩,
   ⟨some 9, .cv .u64 (.t 8), none⟩,
   ⟨some 2, .mv (.t 9), none⟩])
 .ret))),
  [.tmp 2]⟩
theorem c62 : chkFn Try.prog Try.f62 a62 = true := by kernel_rfl

/-- besom/fixed.add -/
def a63 : AFn := ⟨2, (.seq (.reg [
   ⟨some 4, .mv (.c (.int .i64 0)), none⟩])
 (.seq (.reg [
   ⟨some 5, .mv (.t 0), none⟩,
   ⟨some 6, .mv (.t 1), none⟩,
   ⟨some 7, .bsl 22 [.int .i64] 2 [(.int .i64 0), (.int .i64 0)] [(0, 1, (.t 5)), (1, 1, (.t 6))], none⟩,
   ⟨some 8, .call (.f 41) [(.t 7)], none⟩])
 (.seq (.reg [
   ⟨some 9, .mv (.t 0), none⟩,
   ⟨some 10, .mv (.t 1), none⟩,
   ⟨some 11, .bin .add (.t 9) (.t 10), none⟩,
   ⟨some 12, .call (.f 44) [(.t 11)], none⟩,
   ⟨some 13, .mv (.t 0), none⟩,
   ⟨some 14, .mv (.t 1), none⟩,
   ⟨some 15, .bin .add (.t 13) (.t 14), none⟩,
   ⟨some 16, .bin .lss (.t 15) (.c (.int .i64 0)), none⟩,
   ⟨some 17, .call (.f 49) [(.t 12), (.t 16)], none⟩,
   ⟨some 4, .mv (.t 17), none⟩])
 .ret))),
  [.tmp 4]⟩
theorem c63 : chkFn Try.prog Try.f63 a63 = true := by kernel_rfl

/-- besom/glide.within[besom/api.Fix] -/
def a64 : AFn := ⟨3, (.seq (.reg [
   ⟨some 6, .mv (.c (.bool false)), none⟩])
 (.seq (.reg [
   ⟨some 7, .mv (.t 1), none⟩,
   ⟨some 8, .mv (.t 0), none⟩,
   ⟨some 9, .bin .leq (.t 7) (.t 8), none⟩,
   ⟨some 10, .mv (.t 9), none⟩,
   ⟨some 11, .mv (.t 0), some (10, true)⟩,
   ⟨some 12, .mv (.t 2), some (10, true)⟩,
   ⟨some 13, .bin .leq (.t 11) (.t 12), some (10, true)⟩,
   ⟨some 14, .pick (.t 10) (.t 13) (.c (.bool false)), none⟩,
   ⟨some 6, .mv (.t 14), none⟩])
 .ret)),
  [.tmp 6]⟩
theorem c64 : chkFn Try.prog Try.f64 a64 = true := by kernel_rfl

/-- besom/fixed.each$1 -/
def a65 : AFn := ⟨3, (.seq (.reg [
   ⟨some 3, .alloc 24 [(.int .i64 0), (.int .i64 0)], none⟩])
 (.seq (.reg [
   ⟨some 4, .fa (.t 0) 0, none⟩,
   ⟨some 5, .ld 1 false (.t 4), none⟩,
   ⟨some 6, .fa (.t 0) 1, none⟩,
   ⟨some 7, .ld 1 false (.t 6), none⟩,
   ⟨some 8, .fa (.t 1) 0, none⟩,
   ⟨some 9, .ld 1 false (.t 8), none⟩,
   ⟨some 10, .fa (.t 1) 1, none⟩,
   ⟨some 11, .ld 1 false (.t 10), none⟩,
   ⟨some 12, .bsl 22 [.int .i64] 4 [(.int .i64 0), (.int .i64 0), (.int .i64 0), (.int .i64 0)] [(0, 1, (.t 5)), (1, 1, (.t 7)), (2, 1, (.t 9)), (3, 1, (.t 11))], none⟩,
   ⟨some 13, .call (.f 41) [(.t 12)], none⟩])
 (.seq (.drw [
   (⟨some 14, .ld 1 false (.t 2), none⟩, []),
   (⟨some 15, .fa (.t 0) 0, none⟩, []),
   (⟨some 16, .ld 1 false (.t 15), none⟩, [1]),
   (⟨some 17, .fa (.t 1) 0, none⟩, []),
   (⟨some 18, .ld 1 false (.t 17), none⟩, [3]),
   (⟨some 19, .call (.t 14) [(.t 16), (.t 18)], none⟩, [0, 2, 1, 4, 3]),
   (⟨some 20, .ld 1 false (.t 2), none⟩, []),
   (⟨some 21, .fa (.t 0) 1, none⟩, []),
   (⟨some 22, .ld 1 false (.t 21), none⟩, [7]),
   (⟨some 23, .fa (.t 1) 1, none⟩, []),
   (⟨some 24, .ld 1 false (.t 23), none⟩, [9]),
   (⟨some 25, .call (.t 20) [(.t 22), (.t 24)], none⟩, [6, 8, 7, 10, 9, 5, 0, 2, 1, 4, 3]),
   (⟨some 26, .bld [(.int .i64 0), (.int .i64 0)] [(0, 1, (.t 19)), (1, 1, (.t 25))], none⟩, [5, 0, 2, 1, 4, 3, 11, 6, 8, 7, 10, 9]),
   (⟨none, .st 2 (.t 3) (.t 26), none⟩, [12, 5, 0, 2, 1, 4, 3, 11, 6, 8, 7, 10, 9])])
 .ret))),
  [.cell 3 2 true]⟩
theorem c65 : chkFn Try.prog Try.f65 a65 = true := by kernel_rfl

/-- besom/fixed.tried[bool]$1 -/
def a66 : AFn := ⟨2, (.seq (.reg [
   ⟨some 6, .no, none⟩,
   ⟨some 2, .mv (.t 6), none⟩])
 (.seq (.reg [
   ⟨some 8, .mv (.t 2), none⟩,
   ⟨some 9, .tas 105 [(.int .i64 0)] (.t 8), none⟩,
   ⟨some 7, .mv (.t 9), none⟩,
   ⟨some 10, .ext (.t 7) 0, none⟩,
   ⟨some 11, .ext (.t 7) 1, none⟩,
   ⟨some 3, .alloc 105 [(.int .i64 0)], none⟩,
   ⟨none, .st 1 (.t 3) (.t 10), none⟩,
   ⟨some 4, .mv (.t 11), none⟩])
 (.seq (.reg [
   ⟨some 12, .mv (.t 4), none⟩])
 (.cond (.t 12) (.seq (.reg [
    ⟨some 5, .mv (.c (.bool false)), none⟩])
  (.drw [
    (⟨some 13, .mv (.t 5), none⟩, []),
    (⟨some 14, .fa (.t 3) 0, none⟩, []),
    (⟨some 15, .ld 1 false (.t 14), none⟩, [1]),
    (⟨none, .st 1 (.t 0) (.t 13), none⟩, [0]),
    (⟨none, .st 1 (.t 1) (.t 15), none⟩, [2, 1, 3, 0])]))
 (.seq (.reg [
    ⟨some 16, .mv (.t 2), none⟩,
    ⟨some 17, .ifn true (.t 16), none⟩])
  (.cond (.t 17) (.reg [
     ⟨some 18, .mv (.t 2), none⟩,
     ⟨none, .pan (.t 18), none⟩])
  .skip)))))),
  []⟩
theorem c66 : chkFn Try.prog Try.f66 a66 = true := by kernel_rfl

/-- cmp.Or[int] -/
def a67 : AFn := ⟨1, (.seq (.reg [
   ⟨some 2, .mv (.c (.int .i64 0)), none⟩])
 (.seq (.reg [
   ⟨some 3, .mv (.c (.int .i64 0)), none⟩])
 (.seq (.seq (.reg [
   ⟨some 6, .mv (.t 0), none⟩,
   ⟨some 7, .len (.t 6), none⟩,
   ⟨some 8, .mv (.c (.int .i64 0)), none⟩])
 (.blk 0 (.loop 0 (.seq (.reg [
    ⟨some 9, .bin .lss (.t 8) (.t 7), none⟩])
  (.seq (.cond (.t 9) .skip
  (.exit 0))
  (.seq (.blk 1 (.seq (.reg [
    ⟨some 10, .ia (.t 6) (.t 8) 1, none⟩,
    ⟨some 11, .ld 1 false (.t 10), none⟩,
    ⟨some 5, .mv (.t 11), none⟩])
  (.seq (.reg [
    ⟨some 12, .mv (.t 5), none⟩,
    ⟨some 13, .mv (.t 3), none⟩,
    ⟨some 14, .bin .neq (.t 12) (.t 13), none⟩])
  (.cond (.t 14) (.seq (.reg [
     ⟨some 15, .mv (.t 5), none⟩,
     ⟨some 2, .mv (.t 15), none⟩])
   .ret)
  .skip))))
  (.reg [
    ⟨some 16, .bin .add (.t 8) (.c (.int .i64 1)), none⟩,
    ⟨some 8, .mv (.t 16), none⟩])))))))
 (.seq (.reg [
   ⟨some 17, .mv (.t 3), none⟩,
   ⟨some 2, .mv (.t 17), none⟩])
 .ret)))),
  [.tmp 2]⟩
theorem c67 : chkFn Try.prog Try.f67 a67 = true := by kernel_rfl

/-- cmp.Compare[uint64] -/
def a68 : AFn := ⟨2, (.seq (.reg [
   ⟨some 4, .mv (.c (.int .i64 0)), none⟩])
 (.seq (.reg [
   ⟨some 7, .mv (.t 0), none⟩,
   ⟨some 8, .call (.f 79) [(.t 7)], none⟩,
   ⟨some 5, .mv (.t 8), none⟩])
 (.seq (.reg [
   ⟨some 9, .mv (.t 1), none⟩,
   ⟨some 10, .call (.f 79) [(.t 9)], none⟩,
   ⟨some 6, .mv (.t 10), none⟩])
 (.seq (.seq (.reg [
   ⟨some 11, .mv (.t 5), none⟩])
 (.cond (.t 11) (.seq (.seq (.reg [
    ⟨some 12, .mv (.t 6), none⟩])
  (.cond (.t 12) (.seq (.reg [
     ⟨some 4, .mv (.c (.int .i64 0)), none⟩])
   .ret)
  .skip))
  (.seq (.reg [
    ⟨some 4, .mv (.c (.int .i64 (-1))), none⟩])
  .ret))
 .skip))
 (.seq (.seq (.reg [
   ⟨some 13, .mv (.t 6), none⟩])
 (.cond (.t 13) (.seq (.reg [
    ⟨some 4, .mv (.c (.int .i64 1)), none⟩])
  .ret)
 .skip))
 (.seq (.seq (.reg [
   ⟨some 14, .mv (.t 0), none⟩,
   ⟨some 15, .mv (.t 1), none⟩,
   ⟨some 16, .bin .lss (.t 14) (.t 15), none⟩])
 (.cond (.t 16) (.seq (.reg [
    ⟨some 4, .mv (.c (.int .i64 (-1))), none⟩])
  .ret)
 .skip))
 (.seq (.seq (.reg [
   ⟨some 17, .mv (.t 0), none⟩,
   ⟨some 18, .mv (.t 1), none⟩,
   ⟨some 19, .bin .gtr (.t 17) (.t 18), none⟩])
 (.cond (.t 19) (.seq (.reg [
    ⟨some 4, .mv (.c (.int .i64 1)), none⟩])
  .ret)
 .skip))
 (.seq (.reg [
   ⟨some 4, .mv (.c (.int .i64 0)), none⟩])
 .ret)))))))),
  [.tmp 4]⟩
theorem c68 : chkFn Try.prog Try.f68 a68 = true := by kernel_rfl

/-- besom/fixed.tried[besom/api.Spot]$1 -/
def a69 : AFn := ⟨2, (.seq (.reg [
   ⟨some 6, .no, none⟩,
   ⟨some 2, .mv (.t 6), none⟩])
 (.seq (.reg [
   ⟨some 8, .mv (.t 2), none⟩,
   ⟨some 9, .tas 105 [(.int .i64 0)] (.t 8), none⟩,
   ⟨some 7, .mv (.t 9), none⟩,
   ⟨some 10, .ext (.t 7) 0, none⟩,
   ⟨some 11, .ext (.t 7) 1, none⟩,
   ⟨some 3, .alloc 105 [(.int .i64 0)], none⟩,
   ⟨none, .st 1 (.t 3) (.t 10), none⟩,
   ⟨some 4, .mv (.t 11), none⟩])
 (.seq (.reg [
   ⟨some 12, .mv (.t 4), none⟩])
 (.cond (.t 12) (.seq (.reg [
    ⟨some 5, .alloc 24 [(.int .i64 0), (.int .i64 0)], none⟩])
  (.drw [
    (⟨some 13, .ld 2 true (.t 5), none⟩, []),
    (⟨some 14, .fa (.t 3) 0, none⟩, []),
    (⟨some 15, .ld 1 false (.t 14), none⟩, [1]),
    (⟨none, .st 2 (.t 0) (.t 13), none⟩, [0]),
    (⟨none, .st 1 (.t 1) (.t 15), none⟩, [2, 1, 3, 0])]))
 (.seq (.reg [
    ⟨some 16, .mv (.t 2), none⟩,
    ⟨some 17, .ifn true (.t 16), none⟩])
  (.cond (.t 17) (.reg [
     ⟨some 18, .mv (.t 2), none⟩,
     ⟨none, .pan (.t 18), none⟩])
  .skip)))))),
  []⟩
theorem c69 : chkFn Try.prog Try.f69 a69 = true := by kernel_rfl

/-- besom/fixed.below -/
def a70 : AFn := ⟨3, (.seq (.reg [
   ⟨some 4, .box 80 (.t 1), none⟩,
   ⟨some 6, .mv (.c (.bool false)), none⟩])
 (.seq (.reg [
   ⟨some 14, .mv (.t 0), none⟩,
   ⟨some 15, .mv (.t 0), none⟩,
   ⟨some 16, .bin .mul (.t 14) (.t 15), none⟩,
   ⟨some 17, .ld 2 true (.t 4), none⟩,
   ⟨some 18, .call (.f 80) [(.t 16), (.t 17)], none⟩,
   ⟨some 13, .mv (.t 18), none⟩,
   ⟨some 19, .ext (.t 13) 0, none⟩,
   ⟨some 20, .ext (.t 13) 1, none⟩,
   ⟨some 7, .alloc 80 [(.int .u64 0), (.int .u64 0)], none⟩,
   ⟨none, .st 2 (.t 7) (.t 19), none⟩,
   ⟨some 8, .mv (.t 20), none⟩])
 (.seq (.reg [
   ⟨some 21, .mv (.t 2), none⟩,
   ⟨some 22, .mv (.t 2), none⟩,
   ⟨some 23, .call (.f 43) [(.t 21), (.t 22)], none⟩,
   ⟨some 9, .alloc 80 [(.int .u64 0), (.int .u64 0)], none⟩,
   ⟨none, .st 2 (.t 9) (.t 23), none⟩])
 (.seq (.reg [
   ⟨some 24, .fa (.t 9) 0, none⟩,
   ⟨some 25, .ld 1 false (.t 24), none⟩,
   ⟨some 26, .bin .shr (.t 25) (.c (.int .u64 32)), none⟩,
   ⟨some 27, .fa (.t 9) 0, none⟩,
   ⟨some 28, .ld 1 false (.t 27), none⟩,
   ⟨some 29, .bin .shl (.t 28) (.c (.int .u64 32)), none⟩,
   ⟨some 30, .fa (.t 9) 1, none⟩,
   ⟨some 31, .ld 1 false (.t 30), none⟩,
   ⟨some 32, .bin .shr (.t 31) (.c (.int .u64 32)), none⟩,
   ⟨some 33, .bin .or (.t 29) (.t 32), none⟩,
   ⟨some 34, .fa (.t 9) 1, none⟩,
   ⟨some 35, .ld 1 false (.t 34), none⟩,
   ⟨some 36, .bin .shl (.t 35) (.c (.int .u64 32)), none⟩,
   ⟨some 37, .bld [(.int .u64 0), (.int .u64 0), (.int .u64 0)] [(0, 1, (.t 26)), (1, 1, (.t 33)), (2, 1, (.t 36))], none⟩,
   ⟨some 10, .alloc 116 [(.int .u64 0), (.int .u64 0), (.int .u64 0)], none⟩,
   ⟨none, .st 3 (.t 10) (.t 37), none⟩])
 (.seq (.reg [
   ⟨some 38, .fa (.t 7) 0, none⟩,
   ⟨some 39, .ld 1 false (.t 38), none⟩,
   ⟨some 40, .fa (.t 7) 1, none⟩,
   ⟨some 41, .ld 1 false (.t 40), none⟩,
   ⟨some 42, .mv (.t 8), none⟩,
   ⟨some 43, .bld [(.int .u64 0), (.int .u64 0), (.int .u64 0)] [(0, 1, (.t 39)), (1, 1, (.t 41)), (2, 1, (.t 42))], none⟩,
   ⟨some 11, .alloc 116 [(.int .u64 0), (.int .u64 0), (.int .u64 0)], none⟩,
   ⟨none, .st 3 (.t 11) (.t 43), none⟩])
 (.seq (.seq (.reg [
   ⟨some 44, .mv (.c (.int .i64 0)), none⟩])
 (.blk 0 (.loop 0 (.seq (.reg [
    ⟨some 45, .bin .lss (.t 44) (.c (.int .i64 3)), none⟩])
  (.seq (.cond (.t 45) .skip
  (.exit 0))
  (.seq (.blk 1 (.seq (.reg [
    ⟨some 46, .mv (.t 44), none⟩,
    ⟨some 12, .mv (.t 46), none⟩])
  (.seq (.drw [
    (⟨some 47, .mv (.t 12), none⟩, []),
    (⟨some 48, .iaa (.t 11) (.t 47) 3 1, none⟩, [0]),
    (⟨some 49, .ld 1 false (.t 48), none⟩, [1, 0]),
    (⟨some 50, .mv (.t 12), none⟩, []),
    (⟨some 51, .iaa (.t 10) (.t 50) 3 1, none⟩, [3]),
    (⟨some 52, .ld 1 false (.t 51), none⟩, [4, 3]),
    (⟨some 53, .bin .neq (.t 49) (.t 52), none⟩, [2, 1, 0, 5, 4, 3])])
  (.cond (.t 53) (.seq (.drw [
     (⟨some 54, .mv (.t 12), none⟩, []),
     (⟨some 55, .iaa (.t 11) (.t 54) 3 1, none⟩, [0]),
     (⟨some 56, .ld 1 false (.t 55), none⟩, [1, 0]),
     (⟨some 57, .mv (.t 12), none⟩, []),
     (⟨some 58, .iaa (.t 10) (.t 57) 3 1, none⟩, [3]),
     (⟨some 59, .ld 1 false (.t 58), none⟩, [4, 3]),
     (⟨some 60, .bin .lss (.t 56) (.t 59), none⟩, [2, 1, 0, 5, 4, 3]),
     (⟨some 6, .mv (.t 60), none⟩, [6, 2, 1, 0, 5, 4, 3])])
   .ret)
  .skip))))
  (.reg [
    ⟨some 61, .bin .add (.t 44) (.c (.int .i64 1)), none⟩,
    ⟨some 44, .mv (.t 61), none⟩])))))))
 (.seq (.reg [
   ⟨some 6, .mv (.c (.bool true)), none⟩])
 .ret))))))),
  [.tmp 6]⟩
theorem c70 : chkFn Try.prog Try.f70 a70 = true := by kernel_rfl

/-- besom/fixed.tried[besom/api.Fix]$1 -/
def a71 : AFn := ⟨2, (.seq (.reg [
   ⟨some 6, .no, none⟩,
   ⟨some 2, .mv (.t 6), none⟩])
 (.seq (.reg [
   ⟨some 8, .mv (.t 2), none⟩,
   ⟨some 9, .tas 105 [(.int .i64 0)] (.t 8), none⟩,
   ⟨some 7, .mv (.t 9), none⟩,
   ⟨some 10, .ext (.t 7) 0, none⟩,
   ⟨some 11, .ext (.t 7) 1, none⟩,
   ⟨some 3, .alloc 105 [(.int .i64 0)], none⟩,
   ⟨none, .st 1 (.t 3) (.t 10), none⟩,
   ⟨some 4, .mv (.t 11), none⟩])
 (.seq (.reg [
   ⟨some 12, .mv (.t 4), none⟩])
 (.cond (.t 12) (.seq (.reg [
    ⟨some 5, .mv (.c (.int .i64 0)), none⟩])
  (.drw [
    (⟨some 13, .mv (.t 5), none⟩, []),
    (⟨some 14, .fa (.t 3) 0, none⟩, []),
    (⟨some 15, .ld 1 false (.t 14), none⟩, [1]),
    (⟨none, .st 1 (.t 0) (.t 13), none⟩, [0]),
    (⟨none, .st 1 (.t 1) (.t 15), none⟩, [2, 1, 3, 0])]))
 (.seq (.reg [
    ⟨some 16, .mv (.t 2), none⟩,
    ⟨some 17, .ifn true (.t 16), none⟩])
  (.cond (.t 17) (.reg [
     ⟨some 18, .mv (.t 2), none⟩,
     ⟨none, .pan (.t 18), none⟩])
  .skip)))))),
  []⟩
theorem c71 : chkFn Try.prog Try.f71 a71 = true := by kernel_rfl

/-- besom/fixed.ways$1 -/
def a72 : AFn := ⟨2, (.seq (.reg [
   ⟨some 4, .mv (.c (.bool false)), none⟩])
 (.seq (.reg [
   ⟨some 4, .mv (.c (.bool false)), none⟩])
 .ret)),
  [.tmp 4]⟩
theorem c72 : chkFn Try.prog Try.f72 a72 = true := by kernel_rfl

/-- besom/fixed.ways$2 -/
def a73 : AFn := ⟨2, (.seq (.reg [
   ⟨some 4, .mv (.c (.bool false)), none⟩])
 (.seq (.reg [
   ⟨some 5, .mv (.t 1), none⟩,
   ⟨some 4, .mv (.t 5), none⟩])
 .ret)),
  [.tmp 4]⟩
theorem c73 : chkFn Try.prog Try.f73 a73 = true := by kernel_rfl

/-- besom/fixed.ways$3 -/
def a74 : AFn := ⟨2, (.seq (.reg [
   ⟨some 4, .mv (.c (.bool false)), none⟩])
 (.seq (.reg [
   ⟨some 5, .mv (.t 1), none⟩,
   ⟨some 6, .not (.t 5), none⟩,
   ⟨some 4, .mv (.t 6), none⟩])
 .ret)),
  [.tmp 4]⟩
theorem c74 : chkFn Try.prog Try.f74 a74 = true := by kernel_rfl

/-- besom/fixed.ways$4 -/
def a75 : AFn := ⟨2, (.seq (.reg [
   ⟨some 4, .mv (.c (.bool false)), none⟩])
 (.seq (.reg [
   ⟨some 5, .mv (.t 0), none⟩,
   ⟨some 6, .bin .geq (.t 5) (.c (.int .i64 0)), none⟩,
   ⟨some 4, .mv (.t 6), none⟩])
 .ret)),
  [.tmp 4]⟩
theorem c75 : chkFn Try.prog Try.f75 a75 = true := by kernel_rfl

/-- (besom/fixed.wide).over -/
def a76 : AFn := ⟨2, (.seq (.reg [
   ⟨some 2, .box 80 (.t 0), none⟩,
   ⟨some 4, .mv (.c (.int .u64 0)), none⟩,
   ⟨some 5, .mv (.c (.int .u64 0)), none⟩,
   ⟨some 6, .mv (.c (.bool false)), none⟩])
 (.seq (.seq (.reg [
   ⟨some 7, .fa (.t 2) 0, none⟩,
   ⟨some 8, .ld 1 false (.t 7), none⟩,
   ⟨some 9, .mv (.t 1), none⟩,
   ⟨some 10, .bin .geq (.t 8) (.t 9), none⟩])
 (.cond (.t 10) (.seq (.reg [
    ⟨some 4, .mv (.c (.int .u64 0)), none⟩,
    ⟨some 5, .mv (.c (.int .u64 0)), none⟩,
    ⟨some 6, .mv (.c (.bool false)), none⟩])
  .ret)
 .skip))
 (.seq (.reg [
   ⟨some 12, .fa (.t 2) 0, none⟩,
   ⟨some 13, .ld 1 false (.t 12), none⟩,
   ⟨some 14, .fa (.t 2) 1, none⟩,
   ⟨some 15, .ld 1 false (.t 14), none⟩,
   ⟨some 16, .mv (.t 1), none⟩,
   ⟨some 17, .call (.f 81) [(.t 13), (.t 15), (.t 16)], none⟩,
   ⟨some 11, .mv (.t 17), none⟩,
   ⟨some 18, .ext (.t 11) 0, none⟩,
   ⟨some 19, .ext (.t 11) 1, none⟩,
   ⟨some 4, .mv (.t 18), none⟩,
   ⟨some 5, .mv (.t 19), none⟩])
 (.seq (.reg [
   ⟨some 20, .mv (.t 4), none⟩,
   ⟨some 21, .mv (.t 5), none⟩,
   ⟨some 4, .mv (.t 20), none⟩,
   ⟨some 5, .mv (.t 21), none⟩,
   ⟨some 6, .mv (.c (.bool true)), none⟩])
 .ret)))),
  [.tmp 4, .tmp 5, .tmp 6]⟩
theorem c76 : chkFn Try.prog Try.f76 a76 = true := by kernel_rfl

/-- besom/fixed.tried[besom/fixed.rounding]$1 -/
def a78 : AFn := ⟨2, (.seq (.reg [
   ⟨some 6, .no, none⟩,
   ⟨some 2, .mv (.t 6), none⟩])
 (.seq (.reg [
   ⟨some 8, .mv (.t 2), none⟩,
   ⟨some 9, .tas 105 [(.int .i64 0)] (.t 8), none⟩,
   ⟨some 7, .mv (.t 9), none⟩,
   ⟨some 10, .ext (.t 7) 0, none⟩,
   ⟨some 11, .ext (.t 7) 1, none⟩,
   ⟨some 3, .alloc 105 [(.int .i64 0)], none⟩,
   ⟨none, .st 1 (.t 3) (.t 10), none⟩,
   ⟨some 4, .mv (.t 11), none⟩])
 (.seq (.reg [
   ⟨some 12, .mv (.t 4), none⟩])
 (.cond (.t 12) (.seq (.reg [
    ⟨some 5, .mv (.c .nfn), none⟩])
  (.drw [
    (⟨some 13, .mv (.t 5), none⟩, []),
    (⟨some 14, .fa (.t 3) 0, none⟩, []),
    (⟨some 15, .ld 1 false (.t 14), none⟩, [1]),
    (⟨none, .st 1 (.t 0) (.t 13), none⟩, [0]),
    (⟨none, .st 1 (.t 1) (.t 15), none⟩, [2, 1, 3, 0])]))
 (.seq (.reg [
    ⟨some 16, .mv (.t 2), none⟩,
    ⟨some 17, .ifn true (.t 16), none⟩])
  (.cond (.t 17) (.reg [
     ⟨some 18, .mv (.t 2), none⟩,
     ⟨none, .pan (.t 18), none⟩])
  .skip)))))),
  []⟩
theorem c78 : chkFn Try.prog Try.f78 a78 = true := by kernel_rfl

/-- cmp.isNaN[uint64] -/
def a79 : AFn := ⟨1, (.seq (.reg [
   ⟨some 2, .mv (.c (.bool false)), none⟩])
 (.seq (.reg [
   ⟨some 3, .mv (.t 0), none⟩,
   ⟨some 4, .mv (.t 0), none⟩,
   ⟨some 5, .bin .neq (.t 3) (.t 4), none⟩,
   ⟨some 2, .mv (.t 5), none⟩])
 .ret)),
  [.tmp 2]⟩
theorem c79 : chkFn Try.prog Try.f79 a79 = true := by kernel_rfl

/-- besom/fixed.bits3 -/
def a80 : AFn := ⟨2, (.seq (.reg [
   ⟨some 3, .box 80 (.t 1), none⟩,
   ⟨some 4, .alloc 80 [(.int .u64 0), (.int .u64 0)], none⟩,
   ⟨some 5, .mv (.c (.int .u64 0)), none⟩])
 (.seq (.drw [
   (⟨some 8, .mv (.t 0), none⟩, []),
   (⟨some 9, .fa (.t 3) 1, none⟩, []),
   (⟨some 10, .ld 1 false (.t 9), none⟩, [1]),
   (⟨some 11, .call (.f 43) [(.t 8), (.t 10)], none⟩, [0, 2, 1]),
   (⟨some 12, .mv (.t 0), none⟩, []),
   (⟨some 13, .fa (.t 3) 0, none⟩, []),
   (⟨some 14, .ld 1 false (.t 13), none⟩, [5]),
   (⟨some 15, .call (.f 43) [(.t 12), (.t 14)], none⟩, [4, 6, 5, 3, 0, 2, 1]),
   (⟨some 6, .alloc 80 [(.int .u64 0), (.int .u64 0)], none⟩, []),
   (⟨some 7, .alloc 80 [(.int .u64 0), (.int .u64 0)], none⟩, []),
   (⟨none, .st 2 (.t 6) (.t 11), none⟩, [8, 3, 0, 2, 1, 7, 4, 6, 5, 9]),
   (⟨none, .st 2 (.t 7) (.t 15), none⟩, [9, 7, 4, 6, 5, 3, 0, 2, 1, 10, 8])])
 (.seq (.drw [
   (⟨some 16, .ld 2 true (.t 7), none⟩, []),
   (⟨some 17, .fa (.t 6) 0, none⟩, []),
   (⟨some 18, .ld 1 false (.t 17), none⟩, [1]),
   (⟨some 19, .bld [(.int .u64 0), (.int .u64 0)] [(1, 1, (.t 18))], none⟩, [2, 1]),
   (⟨some 20, .call (.f 55) [(.t 16), (.t 19)], none⟩, [0, 3, 2, 1]),
   (⟨some 21, .fa (.t 6) 1, none⟩, []),
   (⟨some 22, .ld 1 false (.t 21), none⟩, [5]),
   (⟨none, .st 2 (.t 4) (.t 20), none⟩, [4, 0, 3, 2, 1]),
   (⟨some 5, .mv (.t 22), none⟩, [6, 5, 7, 4, 0, 3, 2, 1])])
 .ret))),
  [.cell 4 2 true, .tmp 5]⟩
theorem c80 : chkFn Try.prog Try.f80 a80 = true := by kernel_rfl

/-- math/bits.Div64 -/
def a81 : AFn := ⟨3, (.seq (.reg [
   ⟨some 6, .mv (.c (.int .u64 0)), none⟩,
   ⟨some 7, .mv (.c (.int .u64 0)), none⟩])
 (.seq (.seq (.reg [
   ⟨some 19, .mv (.t 2), none⟩,
   ⟨some 20, .bin .eql (.t 19) (.c (.int .u64 0)), none⟩])
 (.cond (.t 20) (.reg [
    ⟨some 21, .no, none⟩,
    ⟨none, .pan (.t 21), none⟩])
 .skip))
 (.seq (.seq (.reg [
   ⟨some 22, .mv (.t 2), none⟩,
   ⟨some 23, .mv (.t 0), none⟩,
   ⟨some 24, .bin .leq (.t 22) (.t 23), none⟩])
 (.cond (.t 24) (.reg [
    ⟨some 25, .no, none⟩,
    ⟨none, .pan (.t 25), none⟩])
 .skip))
 (.seq (.seq (.reg [
   ⟨some 26, .mv (.t 0), none⟩,
   ⟨some 27, .bin .eql (.t 26) (.c (.int .u64 0)), none⟩])
 (.cond (.t 27) (.seq (.drw [
    (⟨some 28, .mv (.t 1), none⟩, []),
    (⟨some 29, .mv (.t 2), none⟩, []),
    (⟨some 30, .bin .quo (.t 28) (.t 29), none⟩, [0, 1]),
    (⟨some 31, .mv (.t 1), none⟩, []),
    (⟨some 32, .mv (.t 2), none⟩, []),
    (⟨some 33, .bin .rem (.t 31) (.t 32), none⟩, [3, 4]),
    (⟨some 6, .mv (.t 30), none⟩, [2, 0, 1]),
    (⟨some 7, .mv (.t 33), none⟩, [5, 3, 4, 6, 2, 0, 1])])
  .ret)
 .skip))
 (.seq (.reg [
   ⟨some 34, .mv (.t 2), none⟩,
   ⟨some 35, .call (.f 82) [(.t 34)], none⟩,
   ⟨some 36, .cv .u64 (.t 35), none⟩,
   ⟨some 8, .mv (.t 36), none⟩])
 (.seq (.reg [
   ⟨some 37, .mv (.t 2), none⟩,
   ⟨some 38, .mv (.t 8), none⟩,
   ⟨some 39, .bin .shl (.t 37) (.t 38), none⟩,
   ⟨some 2, .mv (.t 39), none⟩])
 (.seq (.reg [
   ⟨some 40, .mv (.t 2), none⟩,
   ⟨some 41, .bin .shr (.t 40) (.c (.int .u64 32)), none⟩,
   ⟨some 9, .mv (.t 41), none⟩])
 (.seq (.reg [
   ⟨some 42, .mv (.t 2), none⟩,
   ⟨some 43, .bin .and (.t 42) (.c (.int .u64 4294967295)), none⟩,
   ⟨some 10, .mv (.t 43), none⟩])
 (.seq (.reg [
   ⟨some 44, .mv (.t 0), none⟩,
   ⟨some 45, .mv (.t 8), none⟩,
   ⟨some 46, .bin .shl (.t 44) (.t 45), none⟩,
   ⟨some 47, .mv (.t 1), none⟩,
   ⟨some 48, .mv (.t 8), none⟩,
   ⟨some 49, .bin .sub (.c (.int .u64 64)) (.t 48), none⟩,
   ⟨some 50, .bin .shr (.t 47) (.t 49), none⟩,
   ⟨some 51, .bin .or (.t 46) (.t 50), none⟩,
   ⟨some 11, .mv (.t 51), none⟩])
 (.seq (.reg [
   ⟨some 52, .mv (.t 1), none⟩,
   ⟨some 53, .mv (.t 8), none⟩,
   ⟨some 54, .bin .shl (.t 52) (.t 53), none⟩,
   ⟨some 12, .mv (.t 54), none⟩])
 (.seq (.reg [
   ⟨some 55, .mv (.t 12), none⟩,
   ⟨some 56, .bin .shr (.t 55) (.c (.int .u64 32)), none⟩,
   ⟨some 13, .mv (.t 56), none⟩])
 (.seq (.reg [
   ⟨some 57, .mv (.t 12), none⟩,
   ⟨some 58, .bin .and (.t 57) (.c (.int .u64 4294967295)), none⟩,
   ⟨some 14, .mv (.t 58), none⟩])
 (.seq (.reg [
   ⟨some 59, .mv (.t 11), none⟩,
   ⟨some 60, .mv (.t 9), none⟩,
   ⟨some 61, .bin .quo (.t 59) (.t 60), none⟩,
   ⟨some 15, .mv (.t 61), none⟩])
 (.seq (.reg [
   ⟨some 62, .mv (.t 11), none⟩,
   ⟨some 63, .mv (.t 15), none⟩,
   ⟨some 64, .mv (.t 9), none⟩,
   ⟨some 65, .bin .mul (.t 63) (.t 64), none⟩,
   ⟨some 66, .bin .sub (.t 62) (.t 65), none⟩,
   ⟨some 16, .mv (.t 66), none⟩])
 (.seq (.blk 0 (.loop 0 (.seq (.seq (.reg [
    ⟨some 67, .mv (.t 15), none⟩,
    ⟨some 68, .bin .geq (.t 67) (.c (.int .u64 4294967296)), none⟩,
    ⟨some 69, .mv (.t 68), none⟩,
    ⟨some 70, .mv (.t 15), some (69, false)⟩,
    ⟨some 71, .mv (.t 10), some (69, false)⟩,
    ⟨some 72, .bin .mul (.t 70) (.t 71), some (69, false)⟩,
    ⟨some 73, .mv (.t 16), some (69, false)⟩,
    ⟨some 74, .bin .mul (.c (.int .u64 4294967296)) (.t 73), some (69, false)⟩,
    ⟨some 75, .mv (.t 13), some (69, false)⟩,
    ⟨some 76, .bin .add (.t 74) (.t 75), some (69, false)⟩,
    ⟨some 77, .bin .gtr (.t 72) (.t 76), some (69, false)⟩,
    ⟨some 78, .pick (.t 69) (.c (.bool true)) (.t 77), none⟩])
  (.cond (.t 78) .skip
  (.exit 0)))
  (.blk 1 (.seq (.reg [
    ⟨some 79, .mv (.t 15), none⟩,
    ⟨some 80, .bin .sub (.t 79) (.c (.int .u64 1)), none⟩,
    ⟨some 15, .mv (.t 80), none⟩])
  (.seq (.reg [
    ⟨some 81, .mv (.t 16), none⟩,
    ⟨some 82, .mv (.t 9), none⟩,
    ⟨some 83, .bin .add (.t 81) (.t 82), none⟩,
    ⟨some 16, .mv (.t 83), none⟩])
  (.seq (.reg [
    ⟨some 84, .mv (.t 16), none⟩,
    ⟨some 85, .bin .geq (.t 84) (.c (.int .u64 4294967296)), none⟩])
  (.cond (.t 85) (.exit 0)
  .skip))))))))
 (.seq (.reg [
   ⟨some 86, .mv (.t 11), none⟩,
   ⟨some 87, .bin .mul (.t 86) (.c (.int .u64 4294967296)), none⟩,
   ⟨some 88, .mv (.t 13), none⟩,
   ⟨some 89, .bin .add (.t 87) (.t 88), none⟩,
   ⟨some 90, .mv (.t 15), none⟩,
   ⟨some 91, .mv (.t 2), none⟩,
   ⟨some 92, .bin .mul (.t 90) (.t 91), none⟩,
   ⟨some 93, .bin .sub (.t 89) (.t 92), none⟩,
   ⟨some 17, .mv (.t 93), none⟩])
 (.seq (.reg [
   ⟨some 94, .mv (.t 17), none⟩,
   ⟨some 95, .mv (.t 9), none⟩,
   ⟨some 96, .bin .quo (.t 94) (.t 95), none⟩,
   ⟨some 18, .mv (.t 96), none⟩])
 (.seq (.reg [
   ⟨some 97, .mv (.t 17), none⟩,
   ⟨some 98, .mv (.t 18), none⟩,
   ⟨some 99, .mv (.t 9), none⟩,
   ⟨some 100, .bin .mul (.t 98) (.t 99), none⟩,
   ⟨some 101, .bin .sub (.t 97) (.t 100), none⟩,
   ⟨some 16, .mv (.t 101), none⟩])
 (.seq (.blk 2 (.loop 1 (.seq (.seq (.reg [
    ⟨some 102, .mv (.t 18), none⟩,
    ⟨some 103, .bin .geq (.t 102) (.c (.int .u64 4294967296)), none⟩,
    ⟨some 104, .mv (.t 103), none⟩,
    ⟨some 105, .mv (.t 18), some (104, false)⟩,
    ⟨some 106, .mv (.t 10), some (104, false)⟩,
    ⟨some 107, .bin .mul (.t 105) (.t 106), some (104, false)⟩,
    ⟨some 108, .mv (.t 16), some (104, false)⟩,
    ⟨some 109, .bin .mul (.c (.int .u64 4294967296)) (.t 108), some (104, false)⟩,
    ⟨some 110, .mv (.t 14), some (104, false)⟩,
    ⟨some 111, .bin .add (.t 109) (.t 110), some (104, false)⟩,
    ⟨some 112, .bin .gtr (.t 107) (.t 111), some (104, false)⟩,
    ⟨some 113, .pick (.t 104) (.c (.bool true)) (.t 112), none⟩])
  (.cond (.t 113) .skip
  (.exit 2)))
  (.blk 3 (.seq (.reg [
    ⟨some 114, .mv (.t 18), none⟩,
    ⟨some 115, .bin .sub (.t 114) (.c (.int .u64 1)), none⟩,
    ⟨some 18, .mv (.t 115), none⟩])
  (.seq (.reg [
    ⟨some 116, .mv (.t 16), none⟩,
    ⟨some 117, .mv (.t 9), none⟩,
    ⟨some 118, .bin .add (.t 116) (.t 117), none⟩,
    ⟨some 16, .mv (.t 118), none⟩])
  (.seq (.reg [
    ⟨some 119, .mv (.t 16), none⟩,
    ⟨some 120, .bin .geq (.t 119) (.c (.int .u64 4294967296)), none⟩])
  (.cond (.t 120) (.exit 2)
  .skip))))))))
 (.seq (.reg [
   ⟨some 121, .mv (.t 15), none⟩,
   ⟨some 122, .bin .mul (.t 121) (.c (.int .u64 4294967296)), none⟩,
   ⟨some 123, .mv (.t 18), none⟩,
   ⟨some 124, .bin .add (.t 122) (.t 123), none⟩,
   ⟨some 125, .mv (.t 17), none⟩,
   ⟨some 126, .bin .mul (.t 125) (.c (.int .u64 4294967296)), none⟩,
   ⟨some 127, .mv (.t 14), none⟩,
   ⟨some 128, .bin .add (.t 126) (.t 127), none⟩,
   ⟨some 129, .mv (.t 18), none⟩,
   ⟨some 130, .mv (.t 2), none⟩,
   ⟨some 131, .bin .mul (.t 129) (.t 130), none⟩,
   ⟨some 132, .bin .sub (.t 128) (.t 131), none⟩,
   ⟨some 133, .mv (.t 8), none⟩,
   ⟨some 134, .bin .shr (.t 132) (.t 133), none⟩,
   ⟨some 6, .mv (.t 124), none⟩,
   ⟨some 7, .mv (.t 134), none⟩])
 .ret)))))))))))))))))))),
  [.tmp 6, .tmp 7]⟩
theorem c81 : chkFn Try.prog Try.f81 a81 = true := by kernel_rfl

/-- math/bits.LeadingZeros64 -/
def a82 : AFn := ⟨1, (.seq (.reg [
   ⟨some 2, .mv (.c (.int .i64 0)), none⟩])
 (.seq (.reg [
   ⟨some 3, .mv (.t 0), none⟩,
   ⟨some 4, .call (.f 83) [(.t 3)], none⟩,
   ⟨some 5, .bin .sub (.c (.int .i64 64)) (.t 4), none⟩,
   ⟨some 2, .mv (.t 5), none⟩])
 .ret)),
  [.tmp 2]⟩
theorem c82 : chkFn Try.prog Try.f82 a82 = true := by kernel_rfl

/-- A constant text, as bytes. -/
def tb83_0 : List Nat := [0, 1, 2, 2, 3, 3, 3, 3, 4, 4, 4, 4, 4, 4, 4, 4, 5, 5, 5, 5, 5, 5, 5, 5, 5, 5, 5, 5, 5, 5, 5, 5, 6, 6, 6, 6, 6, 6, 6, 6, 6, 6, 6, 6, 6, 6, 6, 6, 6, 6, 6, 6, 6, 6, 6, 6, 6, 6, 6, 6, 6, 6, 6, 6, 7, 7, 7, 7, 7, 7, 7, 7, 7, 7, 7, 7, 7, 7, 7, 7, 7, 7, 7, 7, 7, 7, 7, 7, 7, 7, 7, 7, 7, 7, 7, 7, 7, 7, 7, 7, 7, 7, 7, 7, 7, 7, 7, 7, 7, 7, 7, 7, 7, 7, 7, 7, 7, 7, 7, 7, 7, 7, 7, 7, 7, 7, 7, 7, 8, 8, 8, 8, 8, 8, 8, 8, 8, 8, 8, 8, 8, 8, 8, 8, 8, 8, 8, 8, 8, 8, 8, 8, 8, 8, 8, 8, 8, 8, 8, 8, 8, 8, 8, 8, 8, 8, 8, 8, 8, 8, 8, 8, 8, 8, 8, 8, 8, 8, 8, 8, 8, 8, 8, 8, 8, 8, 8, 8, 8, 8, 8, 8, 8, 8, 8, 8, 8, 8, 8, 8, 8, 8, 8, 8, 8, 8, 8, 8, 8, 8, 8, 8, 8, 8, 8, 8, 8, 8, 8, 8, 8, 8, 8, 8, 8, 8, 8, 8, 8, 8, 8, 8, 8, 8, 8, 8, 8, 8, 8, 8, 8, 8, 8, 8, 8, 8, 8, 8, 8, 8, 8, 8, 8, 8, 8, 8]
/-- math/bits.Len64 -/
def a83 : AFn := ⟨1, (.seq (.reg [
   ⟨some 2, .mv (.c (.int .i64 0)), none⟩])
 (.seq (.seq (.reg [
   ⟨some 3, .mv (.t 0), none⟩,
   ⟨some 4, .bin .geq (.t 3) (.c (.int .u64 4294967296)), none⟩])
 (.cond (.t 4) (.seq (.reg [
    ⟨some 5, .mv (.t 0), none⟩,
    ⟨some 6, .bin .shr (.t 5) (.c (.int .u64 32)), none⟩,
    ⟨some 0, .mv (.t 6), none⟩])
  (.reg [
    ⟨some 2, .mv (.c (.int .i64 32)), none⟩]))
 .skip))
 (.seq (.seq (.reg [
   ⟨some 7, .mv (.t 0), none⟩,
   ⟨some 8, .bin .geq (.t 7) (.c (.int .u64 65536)), none⟩])
 (.cond (.t 8) (.seq (.reg [
    ⟨some 9, .mv (.t 0), none⟩,
    ⟨some 10, .bin .shr (.t 9) (.c (.int .u64 16)), none⟩,
    ⟨some 0, .mv (.t 10), none⟩])
  (.reg [
    ⟨some 11, .mv (.t 2), none⟩,
    ⟨some 12, .bin .add (.t 11) (.c (.int .i64 16)), none⟩,
    ⟨some 2, .mv (.t 12), none⟩]))
 .skip))
 (.seq (.seq (.reg [
   ⟨some 13, .mv (.t 0), none⟩,
   ⟨some 14, .bin .geq (.t 13) (.c (.int .u64 256)), none⟩])
 (.cond (.t 14) (.seq (.reg [
    ⟨some 15, .mv (.t 0), none⟩,
    ⟨some 16, .bin .shr (.t 15) (.c (.int .u64 8)), none⟩,
    ⟨some 0, .mv (.t 16), none⟩])
  (.reg [
    ⟨some 17, .mv (.t 2), none⟩,
    ⟨some 18, .bin .add (.t 17) (.c (.int .i64 8)), none⟩,
    ⟨some 2, .mv (.t 18), none⟩]))
 .skip))
 (.seq (.reg [
   ⟨some 19, .mv (.t 2), none⟩,
   ⟨some 20, .mv (.t 0), none⟩,
   ⟨some 21, .cv .u8 (.t 20), none⟩,
   ⟨some 22, .ixs tb83_0 (.t 21), none⟩,
   ⟨some 23, .cv .i64 (.t 22), none⟩,
   ⟨some 24, .bin .add (.t 19) (.t 23), none⟩,
   ⟨some 2, .mv (.t 24), none⟩])
 .ret))))),
  [.tmp 2]⟩
theorem c83 : chkFn Try.prog Try.f83 a83 = true := by kernel_rfl

end Go.Proofs.Ytbolfnkgbjkbjaa.AM
