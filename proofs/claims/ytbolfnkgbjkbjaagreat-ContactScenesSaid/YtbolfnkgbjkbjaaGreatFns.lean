/- The program's functions in the machine's form (printed by Emit, checked here against the given form). -/
import Derived.Test.YtbolfnkgbjkbjaaGreatZFna
import Derived.Test.YtbolfnkgbjkbjaaGreatProg
set_option linter.unusedVariables false
set_option maxRecDepth 100000
namespace Go.Proofs.YtbolfnkgbjkbjaaGreat.AM
open Go Go.RowKit
/-- besom/ice.Check -/
def a105 : AFn := ⟨1, (.seq (.reg [
   ⟨some 1, .box 67 (.t 0), none⟩,
   ⟨some 2, .mv (.c (.int .i64 0)), none⟩])
 (.seq (.reg [
   ⟨some 3, .mv (.f 170), none⟩])
 (.seq (.blk 0 (.seq (.seq (.reg [
   ⟨some 5, .fa (.t 1) 0, none⟩,
   ⟨some 6, .ld 2 true (.t 5), none⟩,
   ⟨some 7, .bsl 24 [.int .i64, .int .i64] 1 [(.int .i64 0), (.int .i64 0)] [(0, 2, (.t 6))], none⟩,
   ⟨some 8, .call (.f 168) [(.t 7)], none⟩,
   ⟨some 9, .not (.t 8), none⟩,
   ⟨some 4, .mv (.t 9), none⟩])
 (.cond (.t 4) .skip
 (.seq (.reg [
    ⟨some 10, .fa (.t 1) 2, none⟩,
    ⟨some 11, .ld 1 false (.t 10), none⟩,
    ⟨some 12, .call (.f 172) [(.t 11), (.c (.int .i64 1)), (.c (.int .i64 6553600000))], none⟩,
    ⟨some 13, .not (.t 12), none⟩,
    ⟨some 4, .mv (.t 13), none⟩])
  (.cond (.t 4) .skip
  (.seq (.reg [
     ⟨some 14, .fa (.t 1) 3, none⟩,
     ⟨some 15, .ld 1 false (.t 14), none⟩,
     ⟨some 16, .call (.f 171) [(.t 15), (.c (.int .i64 1)), (.c (.int .i64 256))], none⟩,
     ⟨some 17, .not (.t 16), none⟩,
     ⟨some 4, .mv (.t 17), none⟩])
   (.cond (.t 4) .skip
   (.reg [
      ⟨some 18, .fa (.t 1) 4, none⟩,
      ⟨some 19, .ld 1 false (.t 18), none⟩,
      ⟨some 20, .call (.f 171) [(.t 19), (.c (.int .i64 1)), (.c (.int .i64 256))], none⟩,
      ⟨some 21, .not (.t 20), none⟩,
      ⟨some 4, .mv (.t 21), none⟩])))))))
 (.cond (.t 4) (.seq (.reg [
    ⟨some 2, .mv (.c (.int .i64 2)), none⟩])
  .ret)
 (.seq (.seq (.reg [
    ⟨some 23, .fa (.t 1) 5, none⟩,
    ⟨some 24, .ld 1 false (.t 23), none⟩,
    ⟨some 25, .len (.t 24), none⟩,
    ⟨some 26, .fa (.t 1) 3, none⟩,
    ⟨some 27, .ld 1 false (.t 26), none⟩,
    ⟨some 28, .fa (.t 1) 4, none⟩,
    ⟨some 29, .ld 1 false (.t 28), none⟩,
    ⟨some 30, .bin .mul (.t 27) (.t 29), none⟩,
    ⟨some 31, .bin .neq (.t 25) (.t 30), none⟩,
    ⟨some 22, .mv (.t 31), none⟩])
  (.cond (.t 22) .skip
  (.seq (.reg [
     ⟨some 32, .fa (.t 1) 6, none⟩,
     ⟨some 33, .ld 1 false (.t 32), none⟩,
     ⟨some 34, .len (.t 33), none⟩,
     ⟨some 35, .fa (.t 1) 3, none⟩,
     ⟨some 36, .ld 1 false (.t 35), none⟩,
     ⟨some 37, .fa (.t 1) 4, none⟩,
     ⟨some 38, .ld 1 false (.t 37), none⟩,
     ⟨some 39, .bin .mul (.t 36) (.t 38), none⟩,
     ⟨some 40, .bin .neq (.t 34) (.t 39), none⟩,
     ⟨some 22, .mv (.t 40), none⟩])
   (.cond (.t 22) .skip
   (.seq (.reg [
      ⟨some 41, .fa (.t 1) 5, none⟩,
      ⟨some 42, .ld 1 false (.t 41), none⟩,
      ⟨some 43, .mv (.t 3), none⟩,
      ⟨some 44, .call (.f 173) [(.t 42), (.t 43)], none⟩,
      ⟨some 22, .mv (.t 44), none⟩])
    (.cond (.t 22) .skip
    (.reg [
       ⟨some 45, .fa (.t 1) 6, none⟩,
       ⟨some 46, .ld 1 false (.t 45), none⟩,
       ⟨some 47, .mv (.t 3), none⟩,
       ⟨some 48, .call (.f 173) [(.t 46), (.t 47)], none⟩,
       ⟨some 22, .mv (.t 48), none⟩])))))))
  (.cond (.t 22) (.seq (.reg [
     ⟨some 2, .mv (.c (.int .i64 2)), none⟩])
   .ret)
  .skip)))))
 (.seq (.reg [
   ⟨some 2, .mv (.c (.int .i64 0)), none⟩])
 .ret)))),
  [.tmp 2]⟩
theorem c105 : chkFn Tryz.prog Tryz.f105 a105 = true := by kernel_rfl

/-- besom/ice.CheckGrain -/
def a106 : AFn := ⟨1, (.seq (.reg [
   ⟨some 1, .box 69 (.t 0), none⟩,
   ⟨some 2, .mv (.c (.int .i64 0)), none⟩])
 (.seq (.seq (.reg [
   ⟨some 3, .fa (.t 1) 1, none⟩,
   ⟨some 4, .ld 1 false (.t 3), none⟩,
   ⟨some 5, .fa (.t 1) 0, none⟩,
   ⟨some 6, .ld 1 false (.t 5), none⟩,
   ⟨some 7, .call (.f 172) [(.t 4), (.c (.int .i64 1)), (.t 6)], none⟩,
   ⟨some 8, .not (.t 7), none⟩,
   ⟨some 9, .mv (.t 8), none⟩,
   ⟨some 10, .fa (.t 1) 0, some (9, false)⟩,
   ⟨some 11, .ld 1 false (.t 10), some (9, false)⟩,
   ⟨some 12, .bin .gtr (.t 11) (.c (.int .i64 65536)), some (9, false)⟩,
   ⟨some 13, .pick (.t 9) (.c (.bool true)) (.t 12), none⟩,
   ⟨some 14, .mv (.t 13), none⟩,
   ⟨some 15, .fa (.t 1) 2, some (14, false)⟩,
   ⟨some 16, .ld 1 false (.t 15), some (14, false)⟩,
   ⟨some 17, .call (.f 171) [(.t 16), (.c (.int .i64 0)), (.c (.int .i64 1000))], some (14, false)⟩,
   ⟨some 18, .not (.t 17), some (14, false)⟩,
   ⟨some 19, .pick (.t 14) (.c (.bool true)) (.t 18), none⟩,
   ⟨some 20, .mv (.t 19), none⟩,
   ⟨some 21, .fa (.t 1) 3, some (20, false)⟩,
   ⟨some 22, .ld 1 false (.t 21), some (20, false)⟩,
   ⟨some 23, .call (.f 171) [(.t 22), (.c (.int .i64 0)), (.c (.int .i64 1000))], some (20, false)⟩,
   ⟨some 24, .not (.t 23), some (20, false)⟩,
   ⟨some 25, .pick (.t 20) (.c (.bool true)) (.t 24), none⟩,
   ⟨some 26, .mv (.t 25), none⟩,
   ⟨some 27, .fa (.t 1) 4, some (26, false)⟩,
   ⟨some 28, .ld 1 false (.t 27), some (26, false)⟩,
   ⟨some 29, .call (.f 171) [(.t 28), (.c (.int .i64 0)), (.c (.int .i64 1000))], some (26, false)⟩,
   ⟨some 30, .not (.t 29), some (26, false)⟩,
   ⟨some 31, .pick (.t 26) (.c (.bool true)) (.t 30), none⟩])
 (.cond (.t 31) (.seq (.reg [
    ⟨some 2, .mv (.c (.int .i64 2)), none⟩])
  .ret)
 .skip))
 (.seq (.reg [
   ⟨some 2, .mv (.c (.int .i64 0)), none⟩])
 .ret))),
  [.tmp 2]⟩
theorem c106 : chkFn Tryz.prog Tryz.f106 a106 = true := by kernel_rfl

/-- besom/glide.CheckBrooms -/
def a107 : AFn := ⟨1, (.seq (.reg [
   ⟨some 2, .mv (.c (.int .i64 0)), none⟩])
 (.seq (.reg [
   ⟨some 3, .mv (.f 174), none⟩])
 (.seq (.seq (.reg [
   ⟨some 4, .mv (.t 0), none⟩,
   ⟨some 5, .len (.t 4), none⟩,
   ⟨some 6, .bin .gtr (.t 5) (.c (.int .i64 64)), none⟩,
   ⟨some 7, .mv (.t 6), none⟩,
   ⟨some 8, .mv (.t 0), some (7, false)⟩,
   ⟨some 9, .mv (.t 3), some (7, false)⟩,
   ⟨some 10, .call (.f 175) [(.t 8), (.t 9)], some (7, false)⟩,
   ⟨some 11, .pick (.t 7) (.c (.bool true)) (.t 10), none⟩])
 (.cond (.t 11) (.seq (.reg [
    ⟨some 2, .mv (.c (.int .i64 2)), none⟩])
  .ret)
 .skip))
 (.seq (.reg [
   ⟨some 2, .mv (.c (.int .i64 0)), none⟩])
 .ret)))),
  [.tmp 2]⟩
theorem c107 : chkFn Tryz.prog Tryz.f107 a107 = true := by kernel_rfl

/-- (besom/contact.rink).glide -/
def a108 : AFn := ⟨3, (.seq (.reg [
   ⟨some 3, .box 127 (.t 0), none⟩])
 (.seq (.reg [
   ⟨some 9, .mv (.t 1), none⟩,
   ⟨some 10, .len (.t 9), none⟩,
   ⟨some 11, .mv (.c (.int .i64 0)), none⟩])
 (.blk 0 (.loop 0 (.seq (.reg [
    ⟨some 12, .bin .lss (.t 11) (.t 10), none⟩])
  (.seq (.cond (.t 12) .skip
  (.exit 0))
  (.seq (.blk 1 (.seq (.reg [
    ⟨some 13, .mv (.t 11), none⟩,
    ⟨some 6, .mv (.t 13), none⟩])
  (.seq (.reg [
    ⟨some 14, .mv (.t 1), none⟩,
    ⟨some 15, .mv (.t 6), none⟩,
    ⟨some 16, .ia (.t 14) (.t 15) 8, none⟩,
    ⟨some 7, .mv (.t 16), none⟩])
  (.seq (.seq (.reg [
    ⟨some 17, .mv (.t 7), none⟩,
    ⟨some 18, .nck (.t 17), none⟩,
    ⟨some 19, .fa (.t 18) 0, none⟩,
    ⟨some 20, .fa (.t 19) 7, none⟩,
    ⟨some 21, .ld 1 false (.t 20), none⟩,
    ⟨some 22, .mv (.t 21), none⟩,
    ⟨some 23, .mv (.t 7), some (22, false)⟩,
    ⟨some 24, .nck (.t 23), some (22, false)⟩,
    ⟨some 25, .ld 8 true (.t 24), some (22, false)⟩,
    ⟨some 26, .call (.f 62) [(.t 25)], some (22, false)⟩,
    ⟨some 27, .pick (.t 22) (.c (.bool true)) (.t 26), none⟩])
  (.cond (.t 27) (.exit 1)
  .skip))
  (.seq (.reg [
    ⟨some 8, .mv (.c (.int .i64 0)), none⟩])
  (.seq (.seq (.reg [
    ⟨some 28, .mv (.t 6), none⟩,
    ⟨some 29, .fa (.t 3) 13, none⟩,
    ⟨some 30, .ld 1 false (.t 29), none⟩,
    ⟨some 31, .bin .eql (.t 28) (.t 30), none⟩])
  (.cond (.t 31) (.reg [
     ⟨some 32, .fa (.t 3) 12, none⟩,
     ⟨some 33, .ld 1 false (.t 32), none⟩,
     ⟨some 34, .mv (.t 2), none⟩,
     ⟨some 35, .call (.f 177) [(.t 33), (.t 34)], none⟩,
     ⟨some 36, .ext (.t 35) 0, none⟩,
     ⟨some 37, .ext (.t 35) 1, none⟩,
     ⟨some 38, .call (.f 176) [(.t 36), (.t 37)], none⟩,
     ⟨some 8, .mv (.t 38), none⟩])
  .skip))
  (.drw [
    (⟨some 39, .mv (.t 7), none⟩, []),
    (⟨some 40, .fa (.t 3) 0, none⟩, []),
    (⟨some 41, .ld 7 true (.t 40), none⟩, [1]),
    (⟨some 42, .fa (.t 3) 7, none⟩, []),
    (⟨some 43, .ld 5 true (.t 42), none⟩, [3]),
    (⟨some 44, .mv (.t 7), none⟩, []),
    (⟨some 45, .nck (.t 44), none⟩, [5]),
    (⟨some 46, .fa (.t 45) 0, none⟩, [6, 5]),
    (⟨some 47, .fa (.t 46) 2, none⟩, [7, 6, 5]),
    (⟨some 48, .ld 5 true (.t 47), none⟩, [8, 7, 6, 5]),
    (⟨some 49, .mv (.t 8), none⟩, []),
    (⟨some 50, .call (.f 179) [(.t 41), (.t 43), (.t 48), (.t 49)], none⟩, [2, 1, 4, 3, 9, 8, 7, 6, 5, 10]),
    (⟨some 51, .ext (.t 50) 0, none⟩, [11, 2, 1, 4, 3, 9, 8, 7, 6, 5, 10]),
    (⟨some 52, .ext (.t 50) 1, none⟩, [11, 2, 1, 4, 3, 9, 8, 7, 6, 5, 10]),
    (⟨some 53, .call (.f 178) [(.t 51), (.t 52)], none⟩, [12, 11, 2, 1, 4, 3, 9, 8, 7, 6, 5, 10, 13]),
    (⟨some 54, .nck (.t 39), none⟩, [0, 1, 2, 3, 4, 5, 6, 7, 8, 9, 10, 11, 12, 13, 14]),
    (⟨some 55, .fa (.t 54) 0, none⟩, [15, 0, 1, 2, 3, 4, 5, 6, 7, 8, 9, 10, 11, 12, 13, 14]),
    (⟨some 56, .fa (.t 55) 2, none⟩, [16, 15, 0, 1, 2, 3, 4, 5, 6, 7, 8, 9, 10, 11, 12, 13, 14]),
    (⟨none, .st 5 (.t 56) (.t 53), none⟩, [17, 16, 15, 0, 1, 2, 3, 4, 5, 6, 7, 8, 9, 10, 11, 12, 13, 14])])))))))
  (.reg [
    ⟨some 57, .bin .add (.t 11) (.c (.int .i64 1)), none⟩,
    ⟨some 11, .mv (.t 57), none⟩])))))))),
  []⟩
theorem c108 : chkFn Tryz.prog Tryz.f108 a108 = true := by kernel_rfl

/-- (besom/contact.rink).tick$1 -/
def a109 : AFn := ⟨4, (.seq (.reg [
   ⟨some 4, .mv (.c (.bool false)), none⟩])
 (.seq (.seq (.reg [
   ⟨some 7, .ld 1 false (.t 0), none⟩,
   ⟨some 8, .len (.t 7), none⟩,
   ⟨some 9, .mv (.c (.int .i64 0)), none⟩])
 (.blk 0 (.loop 0 (.seq (.reg [
    ⟨some 10, .bin .lss (.t 9) (.t 8), none⟩])
  (.seq (.cond (.t 10) .skip
  (.exit 0))
  (.seq (.blk 1 (.seq (.reg [
    ⟨some 11, .mv (.t 9), none⟩,
    ⟨some 5, .mv (.t 11), none⟩])
  (.seq (.reg [
    ⟨some 12, .mv (.t 5), none⟩,
    ⟨some 13, .bin .add (.t 12) (.c (.int .i64 1)), none⟩,
    ⟨some 6, .mv (.t 13), none⟩])
  (.blk 2 (.loop 1 (.seq (.seq (.reg [
     ⟨some 14, .mv (.t 6), none⟩,
     ⟨some 15, .ld 1 false (.t 0), none⟩,
     ⟨some 16, .len (.t 15), none⟩,
     ⟨some 17, .bin .lss (.t 14) (.t 16), none⟩])
   (.cond (.t 17) .skip
   (.exit 2)))
   (.seq (.blk 3 (.seq (.drw [
     (⟨some 20, .ld 1 false (.t 0), none⟩, []),
     (⟨some 21, .mv (.t 5), none⟩, []),
     (⟨some 22, .ia (.t 20) (.t 21) 8, none⟩, [0, 1]),
     (⟨some 23, .ld 8 true (.t 22), none⟩, [2, 0, 1]),
     (⟨some 24, .ld 1 false (.t 0), none⟩, []),
     (⟨some 25, .mv (.t 6), none⟩, []),
     (⟨some 26, .ia (.t 24) (.t 25) 8, none⟩, [4, 5]),
     (⟨some 27, .ld 8 true (.t 26), none⟩, [6, 4, 5]),
     (⟨some 28, .call (.f 45) [(.t 23), (.t 27)], none⟩, [3, 2, 0, 1, 7, 6, 4, 5]),
     (⟨some 29, .mv (.t 28), none⟩, [8, 3, 2, 0, 1, 7, 6, 4, 5]),
     (⟨some 30, .ld 1 false (.t 0), some (29, true)⟩, [9, 8, 3, 2, 0, 1, 7, 6, 4, 5]),
     (⟨some 31, .mv (.t 5), some (29, true)⟩, [9, 8, 3, 2, 0, 1, 7, 6, 4, 5]),
     (⟨some 32, .ia (.t 30) (.t 31) 8, some (29, true)⟩, [10, 9, 8, 3, 2, 0, 1, 7, 6, 4, 5, 11]),
     (⟨some 33, .ld 1 false (.t 0), some (29, true)⟩, [9, 8, 3, 2, 0, 1, 7, 6, 4, 5]),
     (⟨some 34, .mv (.t 6), some (29, true)⟩, [9, 8, 3, 2, 0, 1, 7, 6, 4, 5]),
     (⟨some 35, .ia (.t 33) (.t 34) 8, some (29, true)⟩, [13, 9, 8, 3, 2, 0, 1, 7, 6, 4, 5, 14]),
     (⟨some 36, .fa (.t 1) 14, some (29, true)⟩, [9, 8, 3, 2, 0, 1, 7, 6, 4, 5]),
     (⟨some 37, .ld 1 false (.t 36), some (29, true)⟩, [16, 9, 8, 3, 2, 0, 1, 7, 6, 4, 5]),
     (⟨some 38, .call (.f 53) [(.t 32), (.t 35), (.t 37)], some (29, true)⟩, [12, 10, 9, 8, 3, 2, 0, 1, 7, 6, 4, 5, 11, 15, 13, 14, 17, 16]),
     (⟨some 39, .pick (.t 29) (.t 38) (.c (.bool false)), none⟩, [9, 8, 3, 2, 0, 1, 7, 6, 4, 5, 18, 12, 10, 11, 15, 13, 14, 17, 16])])
   (.cond (.t 39) (.seq (.reg [
      ⟨some 4, .mv (.c (.bool true)), none⟩])
    (.reg [
      ⟨some 40, .ld 1 false (.t 2), none⟩,
      ⟨some 41, .ld 1 false (.t 3), none⟩,
      ⟨some 42, .mv (.t 5), none⟩,
      ⟨some 43, .mv (.t 6), none⟩,
      ⟨some 44, .bld [(.int .i64 0), (.int .i64 0), (.int .i64 0)] [(0, 1, (.t 41)), (1, 1, (.t 42)), (2, 1, (.t 43))], none⟩,
      ⟨some 45, .bsl 84 [.int .i64, .int .i64, .int .i64] 1 [(.int .i64 0), (.int .i64 0), (.int .i64 0)] [(0, 3, (.t 44))], none⟩,
      ⟨some 46, .app 84 [.int .i64, .int .i64, .int .i64] 24 (.t 40) (.t 45), none⟩,
      ⟨none, .st 1 (.t 2) (.t 46), none⟩]))
   .skip)))
   (.reg [
     ⟨some 18, .mv (.t 6), none⟩,
     ⟨some 19, .bin .add (.t 18) (.c (.int .i64 1)), none⟩,
     ⟨some 6, .mv (.t 19), none⟩]))))))))
  (.reg [
    ⟨some 47, .bin .add (.t 9) (.c (.int .i64 1)), none⟩,
    ⟨some 9, .mv (.t 47), none⟩])))))))
 (.seq (.reg [
   ⟨some 48, .mv (.t 4), none⟩,
   ⟨some 4, .mv (.t 48), none⟩])
 .ret))),
  [.tmp 4]⟩
theorem c109 : chkFn Tryz.prog Tryz.f109 a109 = true := by kernel_rfl

/-- (besom/contact.rink).shot$1 -/
def a110 : AFn := ⟨4, (.seq (.reg [
   ⟨some 5, .mv (.c (.int .i64 0)), none⟩])
 (.blk 0 (.loop 0 (.seq (.seq (.reg [
    ⟨some 6, .mv (.t 5), none⟩,
    ⟨some 7, .ld 1 false (.t 1), none⟩,
    ⟨some 8, .bin .lss (.t 6) (.t 7), none⟩,
    ⟨some 9, .mv (.t 8), none⟩,
    ⟨some 10, .ld 1 false (.t 2), some (9, true)⟩,
    ⟨some 11, .call (.f 60) [(.t 10)], some (9, true)⟩,
    ⟨some 12, .not (.t 11), some (9, true)⟩,
    ⟨some 13, .pick (.t 9) (.t 12) (.c (.bool false)), none⟩])
  (.cond (.t 13) .skip
  (.exit 0)))
  (.seq (.blk 1 (.seq (.reg [
    ⟨some 16, .mv (.t 0), none⟩,
    ⟨some 17, .ld 15 true (.t 3), none⟩,
    ⟨some 18, .ld 1 false (.t 2), none⟩,
    ⟨some 19, .mv (.t 5), none⟩,
    ⟨some 20, .call (.f 67) [(.t 17), (.t 18), (.t 19)], none⟩,
    ⟨some 21, .call (.t 16) [(.t 20)], none⟩,
    ⟨some 22, .not (.t 21), none⟩])
  (.cond (.t 22) .ret
  .skip)))
  (.reg [
    ⟨some 14, .mv (.t 5), none⟩,
    ⟨some 15, .bin .add (.t 14) (.c (.int .i64 1)), none⟩,
    ⟨some 5, .mv (.t 15), none⟩])))))),
  []⟩
theorem c110 : chkFn Tryz.prog Tryz.f110 a110 = true := by kernel_rfl

/-- besom/besomref03.Ice -/
def a111 : AFn := ⟨1, (.seq (.reg [
   ⟨some 1, .box 67 (.t 0), none⟩,
   ⟨some 2, .mv (.c (.bool false)), none⟩])
 (.seq (.reg [
   ⟨some 6, .fa (.t 1) 0, none⟩,
   ⟨some 7, .ld 2 true (.t 6), none⟩,
   ⟨some 8, .call (.f 127) [(.t 7)], none⟩,
   ⟨some 3, .mv (.t 8), none⟩])
 (.seq (.seq (.reg [
   ⟨some 9, .mv (.t 3), none⟩,
   ⟨some 10, .not (.t 9), none⟩,
   ⟨some 11, .mv (.t 10), none⟩,
   ⟨some 12, .fa (.t 1) 2, some (11, false)⟩,
   ⟨some 13, .ld 1 false (.t 12), some (11, false)⟩,
   ⟨some 14, .bin .lss (.t 13) (.c (.int .i64 1)), some (11, false)⟩,
   ⟨some 15, .pick (.t 11) (.c (.bool true)) (.t 14), none⟩,
   ⟨some 16, .mv (.t 15), none⟩,
   ⟨some 17, .fa (.t 1) 2, some (16, false)⟩,
   ⟨some 18, .ld 1 false (.t 17), some (16, false)⟩,
   ⟨some 19, .bin .gtr (.t 18) (.c (.int .i64 6553600000)), some (16, false)⟩,
   ⟨some 20, .pick (.t 16) (.c (.bool true)) (.t 19), none⟩,
   ⟨some 21, .mv (.t 20), none⟩,
   ⟨some 22, .fa (.t 1) 3, some (21, false)⟩,
   ⟨some 23, .ld 1 false (.t 22), some (21, false)⟩,
   ⟨some 24, .call (.f 180) [(.t 23), (.c (.int .i64 1)), (.c (.int .i64 256))], some (21, false)⟩,
   ⟨some 25, .not (.t 24), some (21, false)⟩,
   ⟨some 26, .pick (.t 21) (.c (.bool true)) (.t 25), none⟩,
   ⟨some 27, .mv (.t 26), none⟩,
   ⟨some 28, .fa (.t 1) 4, some (27, false)⟩,
   ⟨some 29, .ld 1 false (.t 28), some (27, false)⟩,
   ⟨some 30, .call (.f 180) [(.t 29), (.c (.int .i64 1)), (.c (.int .i64 256))], some (27, false)⟩,
   ⟨some 31, .not (.t 30), some (27, false)⟩,
   ⟨some 32, .pick (.t 27) (.c (.bool true)) (.t 31), none⟩])
 (.cond (.t 32) (.seq (.reg [
    ⟨some 2, .mv (.c (.bool false)), none⟩])
  .ret)
 .skip))
 (.seq (.seq (.reg [
   ⟨some 33, .fa (.t 1) 5, none⟩,
   ⟨some 34, .ld 1 false (.t 33), none⟩,
   ⟨some 35, .len (.t 34), none⟩,
   ⟨some 36, .fa (.t 1) 3, none⟩,
   ⟨some 37, .ld 1 false (.t 36), none⟩,
   ⟨some 38, .fa (.t 1) 4, none⟩,
   ⟨some 39, .ld 1 false (.t 38), none⟩,
   ⟨some 40, .bin .mul (.t 37) (.t 39), none⟩,
   ⟨some 41, .bin .neq (.t 35) (.t 40), none⟩,
   ⟨some 42, .mv (.t 41), none⟩,
   ⟨some 43, .fa (.t 1) 6, some (42, false)⟩,
   ⟨some 44, .ld 1 false (.t 43), some (42, false)⟩,
   ⟨some 45, .len (.t 44), some (42, false)⟩,
   ⟨some 46, .fa (.t 1) 3, some (42, false)⟩,
   ⟨some 47, .ld 1 false (.t 46), some (42, false)⟩,
   ⟨some 48, .fa (.t 1) 4, some (42, false)⟩,
   ⟨some 49, .ld 1 false (.t 48), some (42, false)⟩,
   ⟨some 50, .bin .mul (.t 47) (.t 49), some (42, false)⟩,
   ⟨some 51, .bin .neq (.t 45) (.t 50), some (42, false)⟩,
   ⟨some 52, .pick (.t 42) (.c (.bool true)) (.t 51), none⟩])
 (.cond (.t 52) (.seq (.reg [
    ⟨some 2, .mv (.c (.bool false)), none⟩])
  .ret)
 .skip))
 (.seq (.reg [
   ⟨some 53, .fa (.t 1) 5, none⟩,
   ⟨some 54, .ld 1 false (.t 53), none⟩,
   ⟨some 55, .call (.f 181) [(.t 54)], none⟩,
   ⟨some 4, .mv (.t 55), none⟩])
 (.seq (.reg [
   ⟨some 56, .fa (.t 1) 6, none⟩,
   ⟨some 57, .ld 1 false (.t 56), none⟩,
   ⟨some 58, .call (.f 181) [(.t 57)], none⟩,
   ⟨some 5, .mv (.t 58), none⟩])
 (.seq (.reg [
   ⟨some 59, .mv (.t 4), none⟩,
   ⟨some 60, .mv (.t 59), none⟩,
   ⟨some 61, .mv (.t 5), some (60, true)⟩,
   ⟨some 62, .pick (.t 60) (.t 61) (.c (.bool false)), none⟩,
   ⟨some 2, .mv (.t 62), none⟩])
 .ret))))))),
  [.tmp 2]⟩
theorem c111 : chkFn Tryz.prog Tryz.f111 a111 = true := by kernel_rfl

/-- besom/besomref03.Grain -/
def a112 : AFn := ⟨1, (.seq (.reg [
   ⟨some 1, .box 69 (.t 0), none⟩,
   ⟨some 2, .mv (.c (.bool false)), none⟩])
 (.seq (.reg [
   ⟨some 3, .fa (.t 1) 1, none⟩,
   ⟨some 4, .ld 1 false (.t 3), none⟩,
   ⟨some 5, .bin .geq (.t 4) (.c (.int .i64 1)), none⟩,
   ⟨some 6, .mv (.t 5), none⟩,
   ⟨some 7, .fa (.t 1) 1, some (6, true)⟩,
   ⟨some 8, .ld 1 false (.t 7), some (6, true)⟩,
   ⟨some 9, .fa (.t 1) 0, some (6, true)⟩,
   ⟨some 10, .ld 1 false (.t 9), some (6, true)⟩,
   ⟨some 11, .bin .leq (.t 8) (.t 10), some (6, true)⟩,
   ⟨some 12, .pick (.t 6) (.t 11) (.c (.bool false)), none⟩,
   ⟨some 13, .mv (.t 12), none⟩,
   ⟨some 14, .fa (.t 1) 0, some (13, true)⟩,
   ⟨some 15, .ld 1 false (.t 14), some (13, true)⟩,
   ⟨some 16, .bin .leq (.t 15) (.c (.int .i64 65536)), some (13, true)⟩,
   ⟨some 17, .pick (.t 13) (.t 16) (.c (.bool false)), none⟩,
   ⟨some 18, .mv (.t 17), none⟩,
   ⟨some 19, .fa (.t 1) 2, some (18, true)⟩,
   ⟨some 20, .ld 1 false (.t 19), some (18, true)⟩,
   ⟨some 21, .call (.f 180) [(.t 20), (.c (.int .i64 0)), (.c (.int .i64 1000))], some (18, true)⟩,
   ⟨some 22, .pick (.t 18) (.t 21) (.c (.bool false)), none⟩,
   ⟨some 23, .mv (.t 22), none⟩,
   ⟨some 24, .fa (.t 1) 3, some (23, true)⟩,
   ⟨some 25, .ld 1 false (.t 24), some (23, true)⟩,
   ⟨some 26, .call (.f 180) [(.t 25), (.c (.int .i64 0)), (.c (.int .i64 1000))], some (23, true)⟩,
   ⟨some 27, .pick (.t 23) (.t 26) (.c (.bool false)), none⟩,
   ⟨some 28, .mv (.t 27), none⟩,
   ⟨some 29, .fa (.t 1) 4, some (28, true)⟩,
   ⟨some 30, .ld 1 false (.t 29), some (28, true)⟩,
   ⟨some 31, .call (.f 180) [(.t 30), (.c (.int .i64 0)), (.c (.int .i64 1000))], some (28, true)⟩,
   ⟨some 32, .pick (.t 28) (.t 31) (.c (.bool false)), none⟩,
   ⟨some 2, .mv (.t 32), none⟩])
 .ret)),
  [.tmp 2]⟩
theorem c112 : chkFn Tryz.prog Tryz.f112 a112 = true := by kernel_rfl

/-- besom/besomref04.Brooms -/
def a113 : AFn := ⟨1, (.seq (.reg [
   ⟨some 2, .mv (.c (.bool false)), none⟩])
 (.seq (.seq (.reg [
   ⟨some 3, .mv (.c (.int .i64 0)), none⟩])
 (.blk 0 (.loop 0 (.seq (.seq (.reg [
    ⟨some 4, .mv (.t 3), none⟩,
    ⟨some 5, .mv (.t 0), none⟩,
    ⟨some 6, .len (.t 5), none⟩,
    ⟨some 7, .bin .lss (.t 4) (.t 6), none⟩])
  (.cond (.t 7) .skip
  (.exit 0)))
  (.seq (.blk 1 (.seq (.drw [
    (⟨some 10, .mv (.t 0), none⟩, []),
    (⟨some 11, .mv (.t 3), none⟩, []),
    (⟨some 12, .ia (.t 10) (.t 11) 3, none⟩, [0, 1]),
    (⟨some 13, .fa (.t 12) 0, none⟩, [2, 0, 1]),
    (⟨some 14, .ld 1 false (.t 13), none⟩, [3, 2, 0, 1]),
    (⟨some 15, .mv (.t 0), none⟩, []),
    (⟨some 16, .mv (.t 3), none⟩, []),
    (⟨some 17, .ia (.t 15) (.t 16) 3, none⟩, [5, 6]),
    (⟨some 18, .fa (.t 17) 1, none⟩, [7, 5, 6]),
    (⟨some 19, .ld 1 false (.t 18), none⟩, [8, 7, 5, 6]),
    (⟨some 20, .call (.f 115) [(.t 14), (.c (.int .i64 0)), (.t 19)], none⟩, [4, 3, 2, 0, 1, 9, 8, 7, 5, 6]),
    (⟨some 21, .not (.t 20), none⟩, [10, 4, 3, 2, 0, 1, 9, 8, 7, 5, 6]),
    (⟨some 22, .mv (.t 21), none⟩, [11, 10, 4, 3, 2, 0, 1, 9, 8, 7, 5, 6]),
    (⟨some 23, .mv (.t 0), some (22, false)⟩, [12, 11, 10, 4, 3, 2, 0, 1, 9, 8, 7, 5, 6]),
    (⟨some 24, .mv (.t 3), some (22, false)⟩, [12, 11, 10, 4, 3, 2, 0, 1, 9, 8, 7, 5, 6]),
    (⟨some 25, .ia (.t 23) (.t 24) 3, some (22, false)⟩, [13, 12, 11, 10, 4, 3, 2, 0, 1, 9, 8, 7, 5, 6, 14]),
    (⟨some 26, .fa (.t 25) 1, some (22, false)⟩, [15, 13, 12, 11, 10, 4, 3, 2, 0, 1, 9, 8, 7, 5, 6, 14]),
    (⟨some 27, .ld 1 false (.t 26), some (22, false)⟩, [16, 15, 13, 12, 11, 10, 4, 3, 2, 0, 1, 9, 8, 7, 5, 6, 14]),
    (⟨some 28, .bin .gtr (.t 27) (.c (.int .i64 6000)), some (22, false)⟩, [17, 16, 15, 13, 12, 11, 10, 4, 3, 2, 0, 1, 9, 8, 7, 5, 6, 14]),
    (⟨some 29, .pick (.t 22) (.c (.bool true)) (.t 28), none⟩, [12, 11, 10, 4, 3, 2, 0, 1, 9, 8, 7, 5, 6, 18, 17, 16, 15, 13, 14]),
    (⟨some 30, .mv (.t 29), none⟩, [19, 12, 11, 10, 4, 3, 2, 0, 1, 9, 8, 7, 5, 6, 18, 17, 16, 15, 13, 14]),
    (⟨some 31, .mv (.t 0), some (30, false)⟩, [20, 19, 12, 11, 10, 4, 3, 2, 0, 1, 9, 8, 7, 5, 6, 18, 17, 16, 15, 13, 14]),
    (⟨some 32, .mv (.t 3), some (30, false)⟩, [20, 19, 12, 11, 10, 4, 3, 2, 0, 1, 9, 8, 7, 5, 6, 18, 17, 16, 15, 13, 14]),
    (⟨some 33, .ia (.t 31) (.t 32) 3, some (30, false)⟩, [21, 20, 19, 12, 11, 10, 4, 3, 2, 0, 1, 9, 8, 7, 5, 6, 18, 17, 16, 15, 13, 14, 22]),
    (⟨some 34, .fa (.t 33) 2, some (30, false)⟩, [23, 21, 20, 19, 12, 11, 10, 4, 3, 2, 0, 1, 9, 8, 7, 5, 6, 18, 17, 16, 15, 13, 14, 22]),
    (⟨some 35, .ld 1 false (.t 34), some (30, false)⟩, [24, 23, 21, 20, 19, 12, 11, 10, 4, 3, 2, 0, 1, 9, 8, 7, 5, 6, 18, 17, 16, 15, 13, 14, 22]),
    (⟨some 36, .call (.f 115) [(.t 35), (.c (.int .i64 0)), (.c (.int .i64 1000))], some (30, false)⟩, [25, 24, 23, 21, 20, 19, 12, 11, 10, 4, 3, 2, 0, 1, 9, 8, 7, 5, 6, 18, 17, 16, 15, 13, 14, 22]),
    (⟨some 37, .not (.t 36), some (30, false)⟩, [26, 25, 24, 23, 21, 20, 19, 12, 11, 10, 4, 3, 2, 0, 1, 9, 8, 7, 5, 6, 18, 17, 16, 15, 13, 14, 22]),
    (⟨some 38, .pick (.t 30) (.c (.bool true)) (.t 37), none⟩, [20, 19, 12, 11, 10, 4, 3, 2, 0, 1, 9, 8, 7, 5, 6, 18, 17, 16, 15, 13, 14, 27, 26, 25, 24, 23, 21, 22])])
  (.cond (.t 38) (.seq (.reg [
     ⟨some 2, .mv (.c (.bool false)), none⟩])
   .ret)
  .skip)))
  (.reg [
    ⟨some 8, .mv (.t 3), none⟩,
    ⟨some 9, .bin .add (.t 8) (.c (.int .i64 1)), none⟩,
    ⟨some 3, .mv (.t 9), none⟩]))))))
 (.seq (.reg [
   ⟨some 39, .mv (.t 0), none⟩,
   ⟨some 40, .len (.t 39), none⟩,
   ⟨some 41, .bin .leq (.t 40) (.c (.int .i64 64)), none⟩,
   ⟨some 2, .mv (.t 41), none⟩])
 .ret))),
  [.tmp 2]⟩
theorem c113 : chkFn Tryz.prog Tryz.f113 a113 = true := by kernel_rfl

/-- besom/besomref05.glided -/
def a114 : AFn := ⟨3, (.seq (.reg [
   ⟨some 3, .box 91 (.t 0), none⟩,
   ⟨some 6, .mvn 28 [.int .i64, .int .i64, .int .i64, .int .i64, .int .i64, .int .i64, .int .i64, .bool], none⟩,
   ⟨some 7, .mv (.c (.int .i64 0)), none⟩])
 (.seq (.reg [
   ⟨some 14, .bsl 28 [.int .i64, .int .i64, .int .i64, .int .i64, .int .i64, .int .i64, .int .i64, .bool] 0 [] [], none⟩,
   ⟨some 15, .mv (.t 1), none⟩,
   ⟨some 16, .app 28 [.int .i64, .int .i64, .int .i64, .int .i64, .int .i64, .int .i64, .int .i64, .bool] 64 (.t 14) (.t 15), none⟩,
   ⟨some 8, .mv (.t 16), none⟩])
 (.seq (.seq (.reg [
   ⟨some 9, .mv (.c (.int .i64 0)), none⟩])
 (.blk 0 (.loop 0 (.seq (.seq (.reg [
    ⟨some 17, .mv (.t 9), none⟩,
    ⟨some 18, .mv (.t 8), none⟩,
    ⟨some 19, .len (.t 18), none⟩,
    ⟨some 20, .bin .lss (.t 17) (.t 19), none⟩])
  (.cond (.t 20) .skip
  (.exit 0)))
  (.seq (.blk 1 (.seq (.reg [
    ⟨some 23, .mv (.t 8), none⟩,
    ⟨some 24, .mv (.t 9), none⟩,
    ⟨some 25, .ia (.t 23) (.t 24) 8, none⟩,
    ⟨some 26, .fa (.t 25) 2, none⟩,
    ⟨some 27, .ld 5 true (.t 26), none⟩,
    ⟨some 28, .call (.f 41) [(.t 27)], none⟩,
    ⟨some 10, .mv (.t 28), none⟩])
  (.seq (.seq (.reg [
    ⟨some 29, .mv (.t 8), none⟩,
    ⟨some 30, .mv (.t 9), none⟩,
    ⟨some 31, .ia (.t 29) (.t 30) 8, none⟩,
    ⟨some 32, .fa (.t 31) 7, none⟩,
    ⟨some 33, .ld 1 false (.t 32), none⟩,
    ⟨some 34, .mv (.t 33), none⟩,
    ⟨some 35, .mv (.t 10), some (34, false)⟩,
    ⟨some 36, .pick (.t 34) (.c (.bool true)) (.t 35), none⟩])
  (.cond (.t 36) (.exit 1)
  .skip))
  (.seq (.reg [
    ⟨some 11, .mv (.c (.int .i64 0)), none⟩])
  (.seq (.seq (.reg [
    ⟨some 37, .mv (.t 9), none⟩,
    ⟨some 38, .fa (.t 3) 13, none⟩,
    ⟨some 39, .ld 1 false (.t 38), none⟩,
    ⟨some 40, .bin .eql (.t 37) (.t 39), none⟩])
  (.cond (.t 40) (.reg [
     ⟨some 42, .fa (.t 3) 12, none⟩,
     ⟨some 43, .ld 1 false (.t 42), none⟩,
     ⟨some 44, .mv (.t 2), none⟩,
     ⟨some 45, .call (.f 73) [(.t 43), (.t 44)], none⟩,
     ⟨some 41, .mv (.t 45), none⟩,
     ⟨some 46, .ext (.t 41) 0, none⟩,
     ⟨some 47, .ext (.t 41) 1, none⟩,
     ⟨some 11, .mv (.t 46), none⟩])
  .skip))
  (.seq (.drw [
    (⟨some 49, .fa (.t 3) 0, none⟩, []),
    (⟨some 50, .ld 7 true (.t 49), none⟩, [0]),
    (⟨some 51, .fa (.t 3) 7, none⟩, []),
    (⟨some 52, .ld 5 true (.t 51), none⟩, [2]),
    (⟨some 53, .mv (.t 8), none⟩, []),
    (⟨some 54, .mv (.t 9), none⟩, []),
    (⟨some 55, .ia (.t 53) (.t 54) 8, none⟩, [4, 5]),
    (⟨some 56, .fa (.t 55) 2, none⟩, [6, 4, 5]),
    (⟨some 57, .ld 5 true (.t 56), none⟩, [7, 6, 4, 5]),
    (⟨some 58, .mv (.t 11), none⟩, []),
    (⟨some 59, .call (.f 118) [(.t 50), (.t 52), (.t 57), (.t 58)], none⟩, [1, 0, 3, 2, 8, 7, 6, 4, 5, 9]),
    (⟨some 48, .mv (.t 59), none⟩, [10, 1, 0, 3, 2, 8, 7, 6, 4, 5, 9]),
    (⟨some 60, .ext (.t 48) 0, none⟩, [11, 10, 1, 0, 3, 2, 8, 7, 6, 4, 5, 9]),
    (⟨some 61, .ext (.t 48) 1, none⟩, [11, 10, 1, 0, 3, 2, 8, 7, 6, 4, 5, 9]),
    (⟨some 12, .alloc 26 [(.int .i64 0), (.int .i64 0), (.int .i64 0), (.int .i64 0), (.int .i64 0)], none⟩, []),
    (⟨none, .st 5 (.t 12) (.t 60), none⟩, [14, 12, 11, 10, 1, 0, 3, 2, 8, 7, 6, 4, 5, 9]),
    (⟨some 13, .mv (.t 61), none⟩, [13, 11, 10, 1, 0, 3, 2, 8, 7, 6, 4, 5, 9, 15, 14, 12])])
  (.seq (.seq (.reg [
    ⟨some 62, .mv (.t 13), none⟩,
    ⟨some 63, .bin .neq (.t 62) (.c (.int .i64 0)), none⟩])
  (.cond (.t 63) (.seq (.reg [
     ⟨some 64, .mv (.t 13), none⟩,
     ⟨some 6, .mvn 28 [.int .i64, .int .i64, .int .i64, .int .i64, .int .i64, .int .i64, .int .i64, .bool], none⟩,
     ⟨some 7, .mv (.t 64), none⟩])
   .ret)
  .skip))
  (.reg [
    ⟨some 65, .mv (.t 8), none⟩,
    ⟨some 66, .mv (.t 9), none⟩,
    ⟨some 67, .ld 5 true (.t 12), none⟩,
    ⟨some 68, .ia (.t 65) (.t 66) 8, none⟩,
    ⟨some 69, .fa (.t 68) 2, none⟩,
    ⟨none, .st 5 (.t 69) (.t 67), none⟩]))))))))
  (.reg [
    ⟨some 21, .mv (.t 9), none⟩,
    ⟨some 22, .bin .add (.t 21) (.c (.int .i64 1)), none⟩,
    ⟨some 9, .mv (.t 22), none⟩]))))))
 (.seq (.reg [
   ⟨some 70, .mv (.t 8), none⟩,
   ⟨some 6, .mv (.t 70), none⟩,
   ⟨some 7, .mv (.c (.int .i64 0)), none⟩])
 .ret)))),
  [.tmp 6, .tmp 7]⟩
theorem c114 : chkFn Tryz.prog Tryz.f114 a114 = true := by kernel_rfl

/-- besom/besomref04.in -/
def a115 : AFn := ⟨3, (.seq (.reg [
   ⟨some 6, .mv (.c (.bool false)), none⟩])
 (.seq (.reg [
   ⟨some 7, .mv (.t 0), none⟩,
   ⟨some 8, .mv (.t 1), none⟩,
   ⟨some 9, .mv (.t 2), none⟩,
   ⟨some 10, .call (.f 87) [(.t 7), (.t 8), (.t 9)], none⟩,
   ⟨some 6, .mv (.t 10), none⟩])
 .ret)),
  [.tmp 6]⟩
theorem c115 : chkFn Tryz.prog Tryz.f115 a115 = true := by kernel_rfl

/-- besom/besomref04.strength -/
def a116 : AFn := ⟨2, (.seq (.reg [
   ⟨some 4, .mv (.c (.int .i64 0)), none⟩])
 (.seq (.reg [
   ⟨some 5, .mv (.c (.int .i64 0)), none⟩])
 (.seq (.seq (.reg [
   ⟨some 6, .mv (.c (.int .i64 0)), none⟩])
 (.blk 0 (.loop 0 (.seq (.seq (.reg [
    ⟨some 7, .mv (.t 6), none⟩,
    ⟨some 8, .mv (.t 0), none⟩,
    ⟨some 9, .len (.t 8), none⟩,
    ⟨some 10, .bin .lss (.t 7) (.t 9), none⟩])
  (.cond (.t 10) .skip
  (.exit 0)))
  (.seq (.blk 1 (.seq (.reg [
    ⟨some 13, .mv (.t 0), none⟩,
    ⟨some 14, .mv (.t 6), none⟩,
    ⟨some 15, .ia (.t 13) (.t 14) 3, none⟩,
    ⟨some 16, .fa (.t 15) 0, none⟩,
    ⟨some 17, .ld 1 false (.t 16), none⟩,
    ⟨some 18, .mv (.t 1), none⟩,
    ⟨some 19, .bin .leq (.t 17) (.t 18), none⟩,
    ⟨some 20, .mv (.t 19), none⟩,
    ⟨some 21, .mv (.t 0), some (20, true)⟩,
    ⟨some 22, .mv (.t 6), some (20, true)⟩,
    ⟨some 23, .ia (.t 21) (.t 22) 3, some (20, true)⟩,
    ⟨some 24, .fa (.t 23) 1, some (20, true)⟩,
    ⟨some 25, .ld 1 false (.t 24), some (20, true)⟩,
    ⟨some 26, .mv (.t 1), some (20, true)⟩,
    ⟨some 27, .bin .gtr (.t 25) (.t 26), some (20, true)⟩,
    ⟨some 28, .pick (.t 20) (.t 27) (.c (.bool false)), none⟩])
  (.cond (.t 28) (.reg [
     ⟨some 29, .mv (.t 5), none⟩,
     ⟨some 30, .mv (.t 0), none⟩,
     ⟨some 31, .mv (.t 6), none⟩,
     ⟨some 32, .ia (.t 30) (.t 31) 3, none⟩,
     ⟨some 33, .fa (.t 32) 2, none⟩,
     ⟨some 34, .ld 1 false (.t 33), none⟩,
     ⟨some 35, .mx false (.t 29) (.t 34), none⟩,
     ⟨some 5, .mv (.t 35), none⟩])
  .skip)))
  (.reg [
    ⟨some 11, .mv (.t 6), none⟩,
    ⟨some 12, .bin .add (.t 11) (.c (.int .i64 1)), none⟩,
    ⟨some 6, .mv (.t 12), none⟩]))))))
 (.seq (.reg [
   ⟨some 36, .mv (.t 5), none⟩,
   ⟨some 4, .mv (.t 36), none⟩])
 .ret)))),
  [.tmp 4]⟩
theorem c116 : chkFn Tryz.prog Tryz.f116 a116 = true := by kernel_rfl

/-- besom/besomref04.right -/
def a117 : AFn := ⟨4, (.seq (.reg [
   ⟨some 4, .box 67 (.t 0), none⟩,
   ⟨some 5, .box 69 (.t 1), none⟩,
   ⟨some 6, .box 26 (.t 2), none⟩,
   ⟨some 8, .mv (.c (.bool false)), none⟩])
 (.seq (.reg [
   ⟨some 10, .ld 7 true (.t 4), none⟩,
   ⟨some 11, .call (.f 111) [(.t 10)], none⟩,
   ⟨some 12, .mv (.t 11), none⟩,
   ⟨some 13, .ld 5 true (.t 5), some (12, true)⟩,
   ⟨some 14, .call (.f 112) [(.t 13)], some (12, true)⟩,
   ⟨some 15, .pick (.t 12) (.t 14) (.c (.bool false)), none⟩,
   ⟨some 9, .mv (.t 15), none⟩])
 (.seq (.reg [
   ⟨some 16, .mv (.t 9), none⟩,
   ⟨some 17, .mv (.t 16), none⟩,
   ⟨some 18, .ld 5 true (.t 6), some (17, true)⟩,
   ⟨some 19, .call (.f 78) [(.t 18)], some (17, true)⟩,
   ⟨some 20, .pick (.t 17) (.t 19) (.c (.bool false)), none⟩,
   ⟨some 21, .mv (.t 20), none⟩,
   ⟨some 22, .mv (.t 3), some (21, true)⟩,
   ⟨some 23, .call (.f 113) [(.t 22)], some (21, true)⟩,
   ⟨some 24, .pick (.t 21) (.t 23) (.c (.bool false)), none⟩,
   ⟨some 8, .mv (.t 24), none⟩])
 .ret))),
  [.tmp 8]⟩
theorem c117 : chkFn Tryz.prog Tryz.f117 a117 = true := by kernel_rfl

/-- besom/besomref04.Next -/
def a118 : AFn := ⟨4, (.seq (.reg [
   ⟨some 4, .box 67 (.t 0), none⟩,
   ⟨some 5, .box 69 (.t 1), none⟩,
   ⟨some 6, .box 26 (.t 2), none⟩,
   ⟨some 8, .alloc 26 [(.int .i64 0), (.int .i64 0), (.int .i64 0), (.int .i64 0), (.int .i64 0)], none⟩,
   ⟨some 9, .mv (.c (.int .i64 0)), none⟩])
 (.seq (.reg [
   ⟨some 32, .ld 7 true (.t 4), none⟩,
   ⟨some 33, .ld 5 true (.t 5), none⟩,
   ⟨some 34, .fa (.t 6) 0, none⟩,
   ⟨some 35, .ld 2 true (.t 34), none⟩,
   ⟨some 36, .call (.f 182) [(.t 32), (.t 33), (.t 35)], none⟩,
   ⟨some 31, .mv (.t 36), none⟩,
   ⟨some 37, .ext (.t 31) 0, none⟩,
   ⟨some 38, .ext (.t 31) 1, none⟩,
   ⟨some 10, .mv (.t 37), none⟩,
   ⟨some 11, .mv (.t 38), none⟩])
 (.seq (.reg [
   ⟨some 40, .mv (.t 10), none⟩,
   ⟨some 41, .mv (.t 3), none⟩,
   ⟨some 42, .bin .sub (.c (.int .i64 5000)) (.t 41), none⟩,
   ⟨some 43, .call (.f 90) [(.t 40), (.t 42), (.c (.int .i64 5000)), (.c (.int .i64 3))], none⟩,
   ⟨some 39, .mv (.t 43), none⟩,
   ⟨some 44, .ext (.t 39) 0, none⟩,
   ⟨some 45, .ext (.t 39) 1, none⟩,
   ⟨some 12, .mv (.t 44), none⟩,
   ⟨some 13, .mv (.t 45), none⟩])
 (.seq (.reg [
   ⟨some 47, .ld 7 true (.t 4), none⟩,
   ⟨some 48, .ld 5 true (.t 5), none⟩,
   ⟨some 49, .fa (.t 6) 0, none⟩,
   ⟨some 50, .ld 2 true (.t 49), none⟩,
   ⟨some 51, .call (.f 183) [(.t 47), (.t 48), (.t 50)], none⟩,
   ⟨some 46, .mv (.t 51), none⟩,
   ⟨some 52, .ext (.t 46) 0, none⟩,
   ⟨some 53, .ext (.t 46) 1, none⟩,
   ⟨some 14, .mv (.t 52), none⟩,
   ⟨some 15, .mv (.t 53), none⟩])
 (.seq (.reg [
   ⟨some 55, .mv (.t 14), none⟩,
   ⟨some 56, .mv (.t 3), none⟩,
   ⟨some 57, .bin .sub (.c (.int .i64 2000)) (.t 56), none⟩,
   ⟨some 58, .call (.f 90) [(.t 55), (.t 57), (.c (.int .i64 2000)), (.c (.int .i64 3))], none⟩,
   ⟨some 54, .mv (.t 58), none⟩,
   ⟨some 59, .ext (.t 54) 0, none⟩,
   ⟨some 60, .ext (.t 54) 1, none⟩,
   ⟨some 16, .mv (.t 59), none⟩,
   ⟨some 17, .mv (.t 60), none⟩])
 (.seq (.reg [
   ⟨some 62, .mv (.t 16), none⟩,
   ⟨some 63, .fa (.t 6) 4, none⟩,
   ⟨some 64, .ld 1 false (.t 63), none⟩,
   ⟨some 65, .call (.f 90) [(.t 62), (.t 64), (.c (.int .i64 1000)), (.c (.int .i64 0))], none⟩,
   ⟨some 61, .mv (.t 65), none⟩,
   ⟨some 66, .ext (.t 61) 0, none⟩,
   ⟨some 67, .ext (.t 61) 1, none⟩,
   ⟨some 16, .mv (.t 66), none⟩])
 (.seq (.reg [
   ⟨some 69, .fa (.t 6) 2, none⟩,
   ⟨some 70, .ld 2 true (.t 69), none⟩,
   ⟨some 71, .call (.f 184) [(.t 70), (.c (.int .i64 1))], none⟩,
   ⟨some 68, .mv (.t 71), none⟩,
   ⟨some 72, .ext (.t 68) 0, none⟩,
   ⟨some 73, .ext (.t 68) 1, none⟩,
   ⟨some 18, .mv (.t 72), none⟩,
   ⟨some 19, .mv (.t 73), none⟩])
 (.seq (.seq (.reg [
   ⟨some 74, .mv (.t 18), none⟩,
   ⟨some 75, .mv (.t 12), none⟩,
   ⟨some 76, .bin .leq (.t 74) (.t 75), none⟩])
 (.cond (.t 76) (.seq (.reg [
    ⟨some 77, .fa (.t 6) 0, none⟩,
    ⟨some 78, .ld 2 true (.t 77), none⟩,
    ⟨some 79, .bld [(.int .i64 0), (.int .i64 0), (.int .i64 0), (.int .i64 0), (.int .i64 0)] [(0, 2, (.t 78))], none⟩,
    ⟨none, .st 5 (.t 8) (.t 79), none⟩,
    ⟨some 9, .mv (.c (.int .i64 0)), none⟩])
  .ret)
 .skip))
 (.seq (.reg [
   ⟨some 81, .fa (.t 6) 2, none⟩,
   ⟨some 82, .ld 2 true (.t 81), none⟩,
   ⟨some 83, .call (.f 88) [(.t 82)], none⟩,
   ⟨some 80, .mv (.t 83), none⟩,
   ⟨some 84, .ext (.t 80) 0, none⟩,
   ⟨some 85, .ext (.t 80) 1, none⟩,
   ⟨some 20, .alloc 24 [(.int .i64 0), (.int .i64 0)], none⟩,
   ⟨none, .st 2 (.t 20) (.t 84), none⟩,
   ⟨some 21, .mv (.t 85), none⟩])
 (.seq (.reg [
   ⟨some 87, .mv (.t 12), none⟩,
   ⟨some 88, .mv (.t 16), none⟩,
   ⟨some 89, .call (.f 156) [(.t 87), (.t 88), (.c (.int .i64 0))], none⟩,
   ⟨some 86, .mv (.t 89), none⟩,
   ⟨some 90, .ext (.t 86) 0, none⟩,
   ⟨some 91, .ext (.t 86) 1, none⟩,
   ⟨some 22, .mv (.t 90), none⟩,
   ⟨some 23, .mv (.t 91), none⟩])
 (.seq (.reg [
   ⟨some 93, .ld 2 true (.t 20), none⟩,
   ⟨some 94, .mv (.t 12), none⟩,
   ⟨some 95, .call (.f 91) [(.t 93), (.t 94), (.c (.int .i64 0))], none⟩,
   ⟨some 92, .mv (.t 95), none⟩,
   ⟨some 96, .ext (.t 92) 0, none⟩,
   ⟨some 97, .ext (.t 92) 1, none⟩,
   ⟨some 24, .alloc 24 [(.int .i64 0), (.int .i64 0)], none⟩,
   ⟨none, .st 2 (.t 24) (.t 96), none⟩,
   ⟨some 25, .mv (.t 97), none⟩])
 (.seq (.reg [
   ⟨some 99, .ld 2 true (.t 20), none⟩,
   ⟨some 100, .call (.f 185) [(.t 99)], none⟩,
   ⟨some 101, .mv (.t 22), none⟩,
   ⟨some 102, .call (.f 91) [(.t 100), (.t 101), (.c (.int .i64 0))], none⟩,
   ⟨some 98, .mv (.t 102), none⟩,
   ⟨some 103, .ext (.t 98) 0, none⟩,
   ⟨some 104, .ext (.t 98) 1, none⟩,
   ⟨some 26, .alloc 24 [(.int .i64 0), (.int .i64 0)], none⟩,
   ⟨none, .st 2 (.t 26) (.t 103), none⟩,
   ⟨some 27, .mv (.t 104), none⟩])
 (.seq (.reg [
   ⟨some 105, .fa (.t 6) 2, none⟩,
   ⟨some 106, .fa (.t 105) 0, none⟩,
   ⟨some 107, .ld 1 false (.t 106), none⟩,
   ⟨some 108, .fa (.t 24) 0, none⟩,
   ⟨some 109, .ld 1 false (.t 108), none⟩,
   ⟨some 110, .bin .sub (.t 107) (.t 109), none⟩,
   ⟨some 111, .fa (.t 26) 0, none⟩,
   ⟨some 112, .ld 1 false (.t 111), none⟩,
   ⟨some 113, .bin .add (.t 110) (.t 112), none⟩,
   ⟨some 114, .fa (.t 6) 2, none⟩,
   ⟨some 115, .fa (.t 114) 1, none⟩,
   ⟨some 116, .ld 1 false (.t 115), none⟩,
   ⟨some 117, .fa (.t 24) 1, none⟩,
   ⟨some 118, .ld 1 false (.t 117), none⟩,
   ⟨some 119, .bin .sub (.t 116) (.t 118), none⟩,
   ⟨some 120, .fa (.t 26) 1, none⟩,
   ⟨some 121, .ld 1 false (.t 120), none⟩,
   ⟨some 122, .bin .add (.t 119) (.t 121), none⟩,
   ⟨some 123, .bld [(.int .i64 0), (.int .i64 0)] [(0, 1, (.t 113)), (1, 1, (.t 122))], none⟩,
   ⟨some 28, .alloc 24 [(.int .i64 0), (.int .i64 0)], none⟩,
   ⟨none, .st 2 (.t 28) (.t 123), none⟩])
 (.seq (.reg [
   ⟨some 124, .fa (.t 6) 0, none⟩,
   ⟨some 125, .fa (.t 124) 0, none⟩,
   ⟨some 126, .ld 1 false (.t 125), none⟩,
   ⟨some 127, .fa (.t 28) 0, none⟩,
   ⟨some 128, .ld 1 false (.t 127), none⟩,
   ⟨some 129, .bin .add (.t 126) (.t 128), none⟩,
   ⟨some 130, .fa (.t 6) 0, none⟩,
   ⟨some 131, .fa (.t 130) 1, none⟩,
   ⟨some 132, .ld 1 false (.t 131), none⟩,
   ⟨some 133, .fa (.t 28) 1, none⟩,
   ⟨some 134, .ld 1 false (.t 133), none⟩,
   ⟨some 135, .bin .add (.t 132) (.t 134), none⟩,
   ⟨some 136, .bld [(.int .i64 0), (.int .i64 0)] [(0, 1, (.t 129)), (1, 1, (.t 135))], none⟩,
   ⟨some 137, .ld 2 true (.t 28), none⟩,
   ⟨some 138, .fa (.t 6) 4, none⟩,
   ⟨some 139, .ld 1 false (.t 138), none⟩,
   ⟨some 140, .bld [(.int .i64 0), (.int .i64 0), (.int .i64 0), (.int .i64 0), (.int .i64 0)] [(0, 2, (.t 136)), (2, 2, (.t 137)), (4, 1, (.t 139))], none⟩,
   ⟨some 29, .alloc 26 [(.int .i64 0), (.int .i64 0), (.int .i64 0), (.int .i64 0), (.int .i64 0)], none⟩,
   ⟨none, .st 5 (.t 29) (.t 140), none⟩])
 (.seq (.reg [
   ⟨some 141, .ld 5 true (.t 29), none⟩,
   ⟨some 142, .call (.f 78) [(.t 141)], none⟩,
   ⟨some 30, .mv (.t 142), none⟩])
 (.seq (.seq (.reg [
   ⟨some 143, .mv (.t 30), none⟩,
   ⟨some 144, .not (.t 143), none⟩])
 (.cond (.t 144) (.seq (.reg [
    ⟨some 145, .bld [(.int .i64 0), (.int .i64 0), (.int .i64 0), (.int .i64 0), (.int .i64 0)] [], none⟩,
    ⟨none, .st 5 (.t 8) (.t 145), none⟩,
    ⟨some 9, .mv (.c (.int .i64 4)), none⟩])
  .ret)
 .skip))
 (.seq (.reg [
   ⟨some 146, .ld 5 true (.t 29), none⟩,
   ⟨none, .st 5 (.t 8) (.t 146), none⟩,
   ⟨some 9, .mv (.c (.int .i64 0)), none⟩])
 .ret))))))))))))))))),
  [.cell 8 5 true, .tmp 9]⟩
theorem c118 : chkFn Tryz.prog Tryz.f118 a118 = true := by kernel_rfl

/-- besom/glide.square -/
def a119 : AFn := ⟨2, (.seq (.reg [
   ⟨some 2, .box 24 (.t 0), none⟩,
   ⟨some 4, .mv (.c (.bool false)), none⟩])
 (.seq (.reg [
   ⟨some 5, .fa (.t 2) 0, none⟩,
   ⟨some 6, .ld 1 false (.t 5), none⟩,
   ⟨some 7, .mv (.t 1), none⟩,
   ⟨some 8, .neg (.t 7), none⟩,
   ⟨some 9, .mv (.t 1), none⟩,
   ⟨some 10, .call (.f 186) [(.t 6), (.t 8), (.t 9)], none⟩,
   ⟨some 11, .mv (.t 10), none⟩,
   ⟨some 12, .fa (.t 2) 1, some (11, true)⟩,
   ⟨some 13, .ld 1 false (.t 12), some (11, true)⟩,
   ⟨some 14, .mv (.t 1), some (11, true)⟩,
   ⟨some 15, .neg (.t 14), some (11, true)⟩,
   ⟨some 16, .mv (.t 1), some (11, true)⟩,
   ⟨some 17, .call (.f 186) [(.t 13), (.t 15), (.t 16)], some (11, true)⟩,
   ⟨some 18, .pick (.t 11) (.t 17) (.c (.bool false)), none⟩,
   ⟨some 4, .mv (.t 18), none⟩])
 .ret)),
  [.tmp 4]⟩
theorem c119 : chkFn Tryz.prog Tryz.f119 a119 = true := by kernel_rfl

/-- besom/glide.within[int] -/
def a120 : AFn := ⟨3, (.seq (.reg [
   ⟨some 6, .mv (.c (.bool false)), none⟩])
 (.seq (.reg [
   ⟨some 7, .mv (.t 1), none⟩,
   ⟨some 8, .mv (.t 0), none⟩,
   ⟨some 9, .bin .leq (.t 7) (.t 8), none⟩,
   ⟨some 10, .mv (.t 9), none⟩,
   ⟨some 11, .mv (.t 0), some (10, true)⟩,
   ⟨some 12, .mv (.t 2), some (10, true)⟩,
   ⟨some 13, .bin .leq (.t 11) (.t 12), some (10, true)⟩,
   ⟨some 14, .pick (.t 10) (.t 13) (.c (.bool false)), none⟩,
   ⟨some 6, .mv (.t 14), none⟩])
 .ret)),
  [.tmp 6]⟩
theorem c120 : chkFn Tryz.prog Tryz.f120 a120 = true := by kernel_rfl

/-- besom/fixed.sub -/
def a121 : AFn := ⟨2, (.seq (.reg [
   ⟨some 4, .mv (.c (.int .i64 0)), none⟩])
 (.seq (.reg [
   ⟨some 5, .mv (.t 0), none⟩,
   ⟨some 6, .mv (.t 1), none⟩,
   ⟨some 7, .bsl 22 [.int .i64] 2 [(.int .i64 0), (.int .i64 0)] [(0, 1, (.t 5)), (1, 1, (.t 6))], none⟩,
   ⟨some 8, .call (.f 98) [(.t 7)], none⟩])
 (.seq (.reg [
   ⟨some 9, .mv (.t 0), none⟩,
   ⟨some 10, .mv (.t 1), none⟩,
   ⟨some 11, .bin .sub (.t 9) (.t 10), none⟩,
   ⟨some 12, .call (.f 126) [(.t 11)], none⟩,
   ⟨some 13, .mv (.t 0), none⟩,
   ⟨some 14, .mv (.t 1), none⟩,
   ⟨some 15, .bin .sub (.t 13) (.t 14), none⟩,
   ⟨some 16, .bin .lss (.t 15) (.c (.int .i64 0)), none⟩,
   ⟨some 17, .call (.f 138) [(.t 12), (.t 16)], none⟩,
   ⟨some 4, .mv (.t 17), none⟩])
 .ret))),
  [.tmp 4]⟩
theorem c121 : chkFn Tryz.prog Tryz.f121 a121 = true := by kernel_rfl

/-- besom/fixed.tried[bool] -/
def a122 : TFn := ⟨(.reg [
   ⟨some 2, .alloc 4 [(.bool false)], none⟩,
   ⟨some 3, .alloc 29 [(.int .i64 0)], none⟩]), 187, [2, 3], 4,
 (.seq (.reg [
   ⟨some 5, .mv (.t 0), none⟩,
   ⟨some 6, .call (.t 5) [], none⟩,
   ⟨none, .st 1 (.t 2) (.t 6), none⟩,
   ⟨none, .st 1 (.t 3) (.c (.int .i64 0)), none⟩])
 .ret),
  [.cell 2 1 false, .cell 3 1 false], 6, 2,
 (.seq (.reg [
   ⟨some 8, .mv (.t 2), none⟩,
   ⟨some 9, .tas 219 [(.int .i64 0)] (.t 8), none⟩,
   ⟨some 7, .mv (.t 9), none⟩,
   ⟨some 10, .ext (.t 7) 0, none⟩,
   ⟨some 11, .ext (.t 7) 1, none⟩,
   ⟨some 3, .alloc 219 [(.int .i64 0)], none⟩,
   ⟨none, .st 1 (.t 3) (.t 10), none⟩,
   ⟨some 4, .mv (.t 11), none⟩])
 (.seq (.reg [
   ⟨some 12, .mv (.t 4), none⟩])
 (.cond (.t 12) (.seq (.reg [
    ⟨some 5, .mv (.c (.bool false)), none⟩])
  (.drw [
    (⟨some 13, .mv (.t 5), none⟩, []),
    (⟨some 14, .fa (.t 3) 0, none⟩, []),
    (⟨some 15, .ld 1 false (.t 14), none⟩, [1]),
    (⟨none, .st 1 (.t 0) (.t 13), none⟩, [0]),
    (⟨none, .st 1 (.t 1) (.t 15), none⟩, [2, 1, 3, 0])]))
 (.seq (.reg [
    ⟨some 16, .mv (.t 2), none⟩,
    ⟨some 17, .ifn true (.t 16), none⟩])
  (.cond (.t 17) (.reg [
     ⟨some 18, .mv (.t 2), none⟩,
     ⟨none, .pan (.t 18), none⟩])
  .skip)))))⟩
theorem c122 : chkMain Tryz.prog Tryz.f122 a122 = true := by kernel_rfl
theorem d122 : chkDef Tryz.prog Tryz.f187 a122 = true := by kernel_rfl

/-- besom/fixed.Within$1 -/
def a123 : AFn := ⟨2, (.seq (.reg [
   ⟨some 2, .mv (.c (.bool false)), none⟩])
 (.seq (.reg [
   ⟨some 4, .ld 2 true (.t 0), none⟩,
   ⟨some 5, .call (.f 124) [(.t 4)], none⟩,
   ⟨some 3, .alloc 167 [(.int .u64 0), (.int .u64 0)], none⟩,
   ⟨none, .st 2 (.t 3) (.t 5), none⟩])
 (.seq (.reg [
   ⟨some 6, .ld 1 false (.t 1), none⟩,
   ⟨some 7, .bsl 22 [.int .i64] 1 [(.int .i64 0)] [(0, 1, (.t 6))], none⟩,
   ⟨some 8, .call (.f 98) [(.t 7)], none⟩])
 (.seq (.drw [
   (⟨some 9, .ld 1 false (.t 1), none⟩, []),
   (⟨some 10, .bin .geq (.t 9) (.c (.int .i64 0)), none⟩, [0]),
   (⟨some 11, .mv (.t 10), none⟩, [1, 0]),
   (⟨some 12, .ld 2 true (.t 3), some (11, true)⟩, [2, 1, 0]),
   (⟨some 13, .ld 1 false (.t 1), some (11, true)⟩, [2, 1, 0]),
   (⟨some 14, .call (.f 126) [(.t 13)], some (11, true)⟩, [4, 2, 1, 0]),
   (⟨some 15, .ld 1 false (.t 1), some (11, true)⟩, [2, 1, 0]),
   (⟨some 16, .call (.f 126) [(.t 15)], some (11, true)⟩, [6, 2, 1, 0, 5, 4]),
   (⟨some 17, .call (.f 102) [(.t 14), (.t 16)], some (11, true)⟩, [5, 4, 2, 1, 0, 7, 6]),
   (⟨some 18, .call (.f 125) [(.t 12), (.t 17)], some (11, true)⟩, [3, 2, 1, 0, 8, 5, 4, 7, 6]),
   (⟨some 19, .bin .leq (.t 18) (.c (.int .i64 0)), some (11, true)⟩, [9, 3, 2, 1, 0, 8, 5, 4, 7, 6]),
   (⟨some 20, .pick (.t 11) (.t 19) (.c (.bool false)), none⟩, [2, 1, 0, 10, 9, 3, 8, 5, 4, 7, 6]),
   (⟨some 2, .mv (.t 20), none⟩, [11, 2, 1, 0, 10, 9, 3, 8, 5, 4, 7, 6])])
 .ret)))),
  [.tmp 2]⟩
theorem c123 : chkFn Tryz.prog Tryz.f123 a123 = true := by kernel_rfl

/-- besom/fixed.square -/
def a124 : AFn := ⟨1, (.seq (.reg [
   ⟨some 1, .box 24 (.t 0), none⟩,
   ⟨some 2, .alloc 167 [(.int .u64 0), (.int .u64 0)], none⟩])
 (.seq (.reg [
   ⟨some 3, .fa (.t 1) 0, none⟩,
   ⟨some 4, .ld 1 false (.t 3), none⟩,
   ⟨some 5, .fa (.t 1) 1, none⟩,
   ⟨some 6, .ld 1 false (.t 5), none⟩,
   ⟨some 7, .bsl 22 [.int .i64] 2 [(.int .i64 0), (.int .i64 0)] [(0, 1, (.t 4)), (1, 1, (.t 6))], none⟩,
   ⟨some 8, .call (.f 98) [(.t 7)], none⟩])
 (.seq (.drw [
   (⟨some 9, .fa (.t 1) 0, none⟩, []),
   (⟨some 10, .ld 1 false (.t 9), none⟩, [0]),
   (⟨some 11, .call (.f 126) [(.t 10)], none⟩, [1, 0]),
   (⟨some 12, .fa (.t 1) 0, none⟩, []),
   (⟨some 13, .ld 1 false (.t 12), none⟩, [3]),
   (⟨some 14, .call (.f 126) [(.t 13)], none⟩, [4, 3, 2, 1, 0]),
   (⟨some 15, .call (.f 102) [(.t 11), (.t 14)], none⟩, [2, 1, 0, 5, 4, 3]),
   (⟨some 16, .fa (.t 1) 1, none⟩, []),
   (⟨some 17, .ld 1 false (.t 16), none⟩, [7]),
   (⟨some 18, .call (.f 126) [(.t 17)], none⟩, [8, 7, 6, 2, 1, 0, 5, 4, 3]),
   (⟨some 19, .fa (.t 1) 1, none⟩, []),
   (⟨some 20, .ld 1 false (.t 19), none⟩, [10]),
   (⟨some 21, .call (.f 126) [(.t 20)], none⟩, [11, 10, 9, 8, 7, 6, 2, 1, 0, 5, 4, 3]),
   (⟨some 22, .call (.f 102) [(.t 18), (.t 21)], none⟩, [9, 8, 7, 6, 2, 1, 0, 5, 4, 3, 12, 11, 10]),
   (⟨some 23, .call (.f 142) [(.t 15), (.t 22)], none⟩, [6, 2, 1, 0, 5, 4, 3, 13, 9, 8, 7, 12, 11, 10]),
   (⟨none, .st 2 (.t 2) (.t 23), none⟩, [14, 6, 2, 1, 0, 5, 4, 3, 13, 9, 8, 7, 12, 11, 10])])
 .ret))),
  [.cell 2 2 true]⟩
theorem c124 : chkFn Tryz.prog Tryz.f124 a124 = true := by kernel_rfl

/-- (besom/fixed.wide).compare -/
def a125 : AFn := ⟨2, (.seq (.reg [
   ⟨some 2, .box 167 (.t 0), none⟩,
   ⟨some 3, .box 167 (.t 1), none⟩,
   ⟨some 4, .mv (.c (.int .i64 0)), none⟩])
 (.seq (.drw [
   (⟨some 5, .fa (.t 2) 0, none⟩, []),
   (⟨some 6, .ld 1 false (.t 5), none⟩, [0]),
   (⟨some 7, .fa (.t 3) 0, none⟩, []),
   (⟨some 8, .ld 1 false (.t 7), none⟩, [2]),
   (⟨some 9, .call (.f 189) [(.t 6), (.t 8)], none⟩, [1, 0, 3, 2]),
   (⟨some 10, .fa (.t 2) 1, none⟩, []),
   (⟨some 11, .ld 1 false (.t 10), none⟩, [5]),
   (⟨some 12, .fa (.t 3) 1, none⟩, []),
   (⟨some 13, .ld 1 false (.t 12), none⟩, [7]),
   (⟨some 14, .call (.f 189) [(.t 11), (.t 13)], none⟩, [6, 5, 8, 7, 4, 1, 0, 3, 2]),
   (⟨some 15, .bsl 3 [.int .i64] 2 [(.int .i64 0), (.int .i64 0)] [(0, 1, (.t 9)), (1, 1, (.t 14))], none⟩, [4, 1, 0, 3, 2, 9, 6, 5, 8, 7]),
   (⟨some 16, .call (.f 188) [(.t 15)], none⟩, [10, 4, 1, 0, 3, 2, 9, 6, 5, 8, 7]),
   (⟨some 4, .mv (.t 16), none⟩, [11, 10, 4, 1, 0, 3, 2, 9, 6, 5, 8, 7])])
 .ret)),
  [.tmp 4]⟩
theorem c125 : chkFn Tryz.prog Tryz.f125 a125 = true := by kernel_rfl

/-- besom/fixed.size[besom/api.Fix] -/
def a126 : AFn := ⟨1, (.seq (.reg [
   ⟨some 2, .mv (.c (.int .u64 0)), none⟩])
 (.seq (.seq (.reg [
   ⟨some 3, .mv (.t 0), none⟩,
   ⟨some 4, .bin .lss (.t 3) (.c (.int .i64 0)), none⟩])
 (.cond (.t 4) (.seq (.reg [
    ⟨some 5, .mv (.t 0), none⟩,
    ⟨some 6, .cv .u64 (.t 5), none⟩,
    ⟨some 7, .neg (.t 6), none⟩,
    ⟨some 2, .mv (.t 7), none⟩])
  .ret)
 .skip))
 (.seq (.reg [
   ⟨some 8, .mv (.t 0), none⟩,
   ⟨some 9, .cv .u64 (.t 8), none⟩,
   ⟨some 2, .mv (.t 9), none⟩])
 .ret))),
  [.tmp 2]⟩
theorem c126 : chkFn Tryz.prog Tryz.f126 a126 = true := by kernel_rfl

/-- besom/besomref03.Spot -/
def a127 : AFn := ⟨1, (.seq (.reg [
   ⟨some 1, .box 24 (.t 0), none⟩,
   ⟨some 2, .mv (.c (.bool false)), none⟩])
 (.seq (.reg [
   ⟨some 3, .fa (.t 1) 0, none⟩,
   ⟨some 4, .ld 1 false (.t 3), none⟩,
   ⟨some 5, .bin .geq (.t 4) (.c (.int .i64 (-6553600000))), none⟩,
   ⟨some 6, .mv (.t 5), none⟩,
   ⟨some 7, .fa (.t 1) 0, some (6, true)⟩,
   ⟨some 8, .ld 1 false (.t 7), some (6, true)⟩,
   ⟨some 9, .bin .leq (.t 8) (.c (.int .i64 6553600000)), some (6, true)⟩,
   ⟨some 10, .pick (.t 6) (.t 9) (.c (.bool false)), none⟩,
   ⟨some 11, .mv (.t 10), none⟩,
   ⟨some 12, .fa (.t 1) 1, some (11, true)⟩,
   ⟨some 13, .ld 1 false (.t 12), some (11, true)⟩,
   ⟨some 14, .bin .geq (.t 13) (.c (.int .i64 (-6553600000))), some (11, true)⟩,
   ⟨some 15, .pick (.t 11) (.t 14) (.c (.bool false)), none⟩,
   ⟨some 16, .mv (.t 15), none⟩,
   ⟨some 17, .fa (.t 1) 1, some (16, true)⟩,
   ⟨some 18, .ld 1 false (.t 17), some (16, true)⟩,
   ⟨some 19, .bin .leq (.t 18) (.c (.int .i64 6553600000)), some (16, true)⟩,
   ⟨some 20, .pick (.t 16) (.t 19) (.c (.bool false)), none⟩,
   ⟨some 2, .mv (.t 20), none⟩])
 .ret)),
  [.tmp 2]⟩
theorem c127 : chkFn Tryz.prog Tryz.f127 a127 = true := by kernel_rfl

/-- besom/besomref01.Spot -/
def a128 : AFn := ⟨1, (.seq (.reg [
   ⟨some 1, .box 24 (.t 0), none⟩,
   ⟨some 2, .mv (.c (.bool false)), none⟩])
 (.seq (.reg [
   ⟨some 3, .fa (.t 1) 0, none⟩,
   ⟨some 4, .ld 1 false (.t 3), none⟩,
   ⟨some 5, .call (.f 129) [(.t 4)], none⟩,
   ⟨some 6, .mv (.t 5), none⟩,
   ⟨some 7, .fa (.t 1) 1, some (6, true)⟩,
   ⟨some 8, .ld 1 false (.t 7), some (6, true)⟩,
   ⟨some 9, .call (.f 129) [(.t 8)], some (6, true)⟩,
   ⟨some 10, .pick (.t 6) (.t 9) (.c (.bool false)), none⟩,
   ⟨some 2, .mv (.t 10), none⟩])
 .ret)),
  [.tmp 2]⟩
theorem c128 : chkFn Tryz.prog Tryz.f128 a128 = true := by kernel_rfl

/-- besom/besomref01.Valid -/
def a129 : AFn := ⟨1, (.seq (.reg [
   ⟨some 2, .mv (.c (.bool false)), none⟩])
 (.seq (.reg [
   ⟨some 3, .mv (.t 0), none⟩,
   ⟨some 4, .bin .geq (.t 3) (.c (.int .i64 (-70368744177664))), none⟩,
   ⟨some 5, .mv (.t 4), none⟩,
   ⟨some 6, .mv (.t 0), some (5, true)⟩,
   ⟨some 7, .bin .leq (.t 6) (.c (.int .i64 70368744177664)), some (5, true)⟩,
   ⟨some 8, .pick (.t 5) (.t 7) (.c (.bool false)), none⟩,
   ⟨some 2, .mv (.t 8), none⟩])
 .ret)),
  [.tmp 2]⟩
theorem c129 : chkFn Tryz.prog Tryz.f129 a129 = true := by kernel_rfl

/-- besom/besomref01.of -/
def a130 : AFn := ⟨1, (.seq (.reg [
   ⟨some 2, .mvn 3 [.int .i64], none⟩])
 (.seq (.reg [
   ⟨some 3, .mvn 3 [.int .i64], none⟩])
 (.seq (.blk 0 (.loop 0 (.seq (.seq (.reg [
    ⟨some 4, .mv (.t 0), none⟩,
    ⟨some 5, .bin .gtr (.t 4) (.c (.int .i64 0)), none⟩])
  (.cond (.t 5) .skip
  (.exit 0)))
  (.blk 1 (.seq (.reg [
    ⟨some 6, .mv (.t 3), none⟩,
    ⟨some 7, .mv (.t 0), none⟩,
    ⟨some 8, .bin .rem (.t 7) (.c (.int .i64 32768)), none⟩,
    ⟨some 9, .bsl 3 [.int .i64] 1 [(.int .i64 0)] [(0, 1, (.t 8))], none⟩,
    ⟨some 10, .app 3 [.int .i64] 8 (.t 6) (.t 9), none⟩,
    ⟨some 3, .mv (.t 10), none⟩])
  (.reg [
    ⟨some 11, .mv (.t 0), none⟩,
    ⟨some 12, .bin .quo (.t 11) (.c (.int .i64 32768)), none⟩,
    ⟨some 0, .mv (.t 12), none⟩]))))))
 (.seq (.reg [
   ⟨some 13, .mv (.t 3), none⟩,
   ⟨some 2, .mv (.t 13), none⟩])
 .ret)))),
  [.tmp 2]⟩
theorem c130 : chkFn Tryz.prog Tryz.f130 a130 = true := by kernel_rfl

/-- besom/besomref01.size -/
def a131 : AFn := ⟨1, (.seq (.reg [
   ⟨some 2, .mv (.c (.int .i64 0)), none⟩])
 (.seq (.seq (.reg [
   ⟨some 3, .mv (.t 0), none⟩,
   ⟨some 4, .bin .lss (.t 3) (.c (.int .i64 0)), none⟩])
 (.cond (.t 4) (.seq (.reg [
    ⟨some 5, .mv (.t 0), none⟩,
    ⟨some 6, .neg (.t 5), none⟩,
    ⟨some 2, .mv (.t 6), none⟩])
  .ret)
 .skip))
 (.seq (.reg [
   ⟨some 7, .mv (.t 0), none⟩,
   ⟨some 2, .mv (.t 7), none⟩])
 .ret))),
  [.tmp 2]⟩
theorem c131 : chkFn Tryz.prog Tryz.f131 a131 = true := by kernel_rfl

/-- besom/besomref01.order -/
def a132 : AFn := ⟨2, (.seq (.reg [
   ⟨some 4, .mv (.c (.int .i64 0)), none⟩])
 (.seq (.seq (.reg [
   ⟨some 6, .mv (.t 0), none⟩,
   ⟨some 7, .len (.t 6), none⟩,
   ⟨some 8, .mv (.t 1), none⟩,
   ⟨some 9, .len (.t 8), none⟩,
   ⟨some 10, .bin .lss (.t 7) (.t 9), none⟩])
 (.cond (.t 10) (.seq (.reg [
    ⟨some 4, .mv (.c (.int .i64 (-1))), none⟩])
  .ret)
 .skip))
 (.seq (.seq (.reg [
   ⟨some 11, .mv (.t 0), none⟩,
   ⟨some 12, .len (.t 11), none⟩,
   ⟨some 13, .mv (.t 1), none⟩,
   ⟨some 14, .len (.t 13), none⟩,
   ⟨some 15, .bin .gtr (.t 12) (.t 14), none⟩])
 (.cond (.t 15) (.seq (.reg [
    ⟨some 4, .mv (.c (.int .i64 1)), none⟩])
  .ret)
 .skip))
 (.seq (.seq (.reg [
   ⟨some 16, .mv (.t 0), none⟩,
   ⟨some 17, .len (.t 16), none⟩,
   ⟨some 18, .bin .sub (.t 17) (.c (.int .i64 1)), none⟩,
   ⟨some 5, .mv (.t 18), none⟩])
 (.blk 0 (.loop 0 (.seq (.seq (.reg [
    ⟨some 19, .mv (.t 5), none⟩,
    ⟨some 20, .bin .geq (.t 19) (.c (.int .i64 0)), none⟩])
  (.cond (.t 20) .skip
  (.exit 0)))
  (.seq (.blk 1 (.seq (.seq (.drw [
    (⟨some 23, .mv (.t 0), none⟩, []),
    (⟨some 24, .mv (.t 5), none⟩, []),
    (⟨some 25, .ia (.t 23) (.t 24) 1, none⟩, [0, 1]),
    (⟨some 26, .ld 1 false (.t 25), none⟩, [2, 0, 1]),
    (⟨some 27, .mv (.t 1), none⟩, []),
    (⟨some 28, .mv (.t 5), none⟩, []),
    (⟨some 29, .ia (.t 27) (.t 28) 1, none⟩, [4, 5]),
    (⟨some 30, .ld 1 false (.t 29), none⟩, [6, 4, 5]),
    (⟨some 31, .bin .lss (.t 26) (.t 30), none⟩, [3, 2, 0, 1, 7, 6, 4, 5])])
  (.cond (.t 31) (.seq (.reg [
     ⟨some 4, .mv (.c (.int .i64 (-1))), none⟩])
   .ret)
  .skip))
  (.seq (.drw [
    (⟨some 32, .mv (.t 0), none⟩, []),
    (⟨some 33, .mv (.t 5), none⟩, []),
    (⟨some 34, .ia (.t 32) (.t 33) 1, none⟩, [0, 1]),
    (⟨some 35, .ld 1 false (.t 34), none⟩, [2, 0, 1]),
    (⟨some 36, .mv (.t 1), none⟩, []),
    (⟨some 37, .mv (.t 5), none⟩, []),
    (⟨some 38, .ia (.t 36) (.t 37) 1, none⟩, [4, 5]),
    (⟨some 39, .ld 1 false (.t 38), none⟩, [6, 4, 5]),
    (⟨some 40, .bin .gtr (.t 35) (.t 39), none⟩, [3, 2, 0, 1, 7, 6, 4, 5])])
  (.cond (.t 40) (.seq (.reg [
     ⟨some 4, .mv (.c (.int .i64 1)), none⟩])
   .ret)
  .skip))))
  (.reg [
    ⟨some 21, .mv (.t 5), none⟩,
    ⟨some 22, .bin .sub (.t 21) (.c (.int .i64 1)), none⟩,
    ⟨some 5, .mv (.t 22), none⟩]))))))
 (.seq (.reg [
   ⟨some 4, .mv (.c (.int .i64 0)), none⟩])
 .ret))))),
  [.tmp 4]⟩
theorem c132 : chkFn Tryz.prog Tryz.f132 a132 = true := by kernel_rfl

/-- besom/besomref01.square -/
def a133 : AFn := ⟨1, (.seq (.reg [
   ⟨some 1, .box 24 (.t 0), none⟩,
   ⟨some 2, .mvn 3 [.int .i64], none⟩])
 (.seq (.reg [
   ⟨some 5, .fa (.t 1) 0, none⟩,
   ⟨some 6, .ld 1 false (.t 5), none⟩,
   ⟨some 7, .call (.f 131) [(.t 6)], none⟩,
   ⟨some 8, .call (.f 130) [(.t 7)], none⟩,
   ⟨some 3, .mv (.t 8), none⟩])
 (.seq (.reg [
   ⟨some 9, .fa (.t 1) 1, none⟩,
   ⟨some 10, .ld 1 false (.t 9), none⟩,
   ⟨some 11, .call (.f 131) [(.t 10)], none⟩,
   ⟨some 12, .call (.f 130) [(.t 11)], none⟩,
   ⟨some 4, .mv (.t 12), none⟩])
 (.seq (.reg [
   ⟨some 13, .mv (.t 3), none⟩,
   ⟨some 14, .mv (.t 3), none⟩,
   ⟨some 15, .call (.f 134) [(.t 13), (.t 14)], none⟩,
   ⟨some 16, .mv (.t 4), none⟩,
   ⟨some 17, .mv (.t 4), none⟩,
   ⟨some 18, .call (.f 134) [(.t 16), (.t 17)], none⟩,
   ⟨some 19, .call (.f 190) [(.t 15), (.t 18)], none⟩,
   ⟨some 2, .mv (.t 19), none⟩])
 .ret)))),
  [.tmp 2]⟩
theorem c133 : chkFn Tryz.prog Tryz.f133 a133 = true := by kernel_rfl

/-- besom/besomref01.times -/
def a134 : AFn := ⟨2, (.seq (.reg [
   ⟨some 4, .mvn 3 [.int .i64], none⟩])
 (.seq (.reg [
   ⟨some 9, .mv (.t 0), none⟩,
   ⟨some 10, .len (.t 9), none⟩,
   ⟨some 11, .mv (.t 1), none⟩,
   ⟨some 12, .len (.t 11), none⟩,
   ⟨some 13, .bin .add (.t 10) (.t 12), none⟩,
   ⟨some 14, .msl 3 [.int .i64] 8 (0) (.t 13) (.t 13), none⟩,
   ⟨some 5, .mv (.t 14), none⟩])
 (.seq (.seq (.reg [
   ⟨some 6, .mv (.c (.int .i64 0)), none⟩])
 (.blk 0 (.loop 0 (.seq (.seq (.reg [
    ⟨some 15, .mv (.t 6), none⟩,
    ⟨some 16, .mv (.t 0), none⟩,
    ⟨some 17, .len (.t 16), none⟩,
    ⟨some 18, .bin .lss (.t 15) (.t 17), none⟩])
  (.cond (.t 18) .skip
  (.exit 0)))
  (.seq (.blk 1 (.seq (.reg [
    ⟨some 7, .mv (.c (.int .i64 0)), none⟩])
  (.seq (.seq (.reg [
    ⟨some 8, .mv (.c (.int .i64 0)), none⟩])
  (.blk 2 (.loop 1 (.seq (.seq (.reg [
     ⟨some 21, .mv (.t 8), none⟩,
     ⟨some 22, .mv (.t 1), none⟩,
     ⟨some 23, .len (.t 22), none⟩,
     ⟨some 24, .bin .lss (.t 21) (.t 23), none⟩])
   (.cond (.t 24) .skip
   (.exit 2)))
   (.seq (.blk 3 (.seq (.drw [
     (⟨some 27, .mv (.t 7), none⟩, []),
     (⟨some 28, .mv (.t 5), none⟩, []),
     (⟨some 29, .mv (.t 6), none⟩, []),
     (⟨some 30, .mv (.t 8), none⟩, []),
     (⟨some 31, .bin .add (.t 29) (.t 30), none⟩, [2, 3]),
     (⟨some 32, .ia (.t 28) (.t 31) 1, none⟩, [1, 4, 2, 3]),
     (⟨some 33, .ld 1 false (.t 32), none⟩, [5, 1, 4, 2, 3]),
     (⟨some 34, .bin .add (.t 27) (.t 33), none⟩, [0, 6, 5, 1, 4, 2, 3]),
     (⟨some 35, .mv (.t 0), none⟩, []),
     (⟨some 36, .mv (.t 6), none⟩, []),
     (⟨some 37, .ia (.t 35) (.t 36) 1, none⟩, [8, 9]),
     (⟨some 38, .ld 1 false (.t 37), none⟩, [10, 8, 9]),
     (⟨some 39, .mv (.t 1), none⟩, []),
     (⟨some 40, .mv (.t 8), none⟩, []),
     (⟨some 41, .ia (.t 39) (.t 40) 1, none⟩, [12, 13]),
     (⟨some 42, .ld 1 false (.t 41), none⟩, [14, 12, 13]),
     (⟨some 43, .bin .mul (.t 38) (.t 42), none⟩, [11, 10, 8, 9, 15, 14, 12, 13]),
     (⟨some 44, .bin .add (.t 34) (.t 43), none⟩, [7, 0, 6, 5, 1, 4, 2, 3, 16, 11, 10, 8, 9, 15, 14, 12, 13]),
     (⟨some 7, .mv (.t 44), none⟩, [17, 7, 0, 6, 5, 1, 4, 2, 3, 16, 11, 10, 8, 9, 15, 14, 12, 13])])
   (.seq (.reg [
     ⟨some 45, .mv (.t 5), none⟩,
     ⟨some 46, .mv (.t 6), none⟩,
     ⟨some 47, .mv (.t 8), none⟩,
     ⟨some 48, .bin .add (.t 46) (.t 47), none⟩,
     ⟨some 49, .mv (.t 7), none⟩,
     ⟨some 50, .bin .rem (.t 49) (.c (.int .i64 32768)), none⟩,
     ⟨some 51, .ia (.t 45) (.t 48) 1, none⟩,
     ⟨none, .st 1 (.t 51) (.t 50), none⟩])
   (.reg [
     ⟨some 52, .mv (.t 7), none⟩,
     ⟨some 53, .bin .quo (.t 52) (.c (.int .i64 32768)), none⟩,
     ⟨some 7, .mv (.t 53), none⟩]))))
   (.reg [
     ⟨some 25, .mv (.t 8), none⟩,
     ⟨some 26, .bin .add (.t 25) (.c (.int .i64 1)), none⟩,
     ⟨some 8, .mv (.t 26), none⟩]))))))
  (.reg [
    ⟨some 54, .mv (.t 5), none⟩,
    ⟨some 55, .mv (.t 6), none⟩,
    ⟨some 56, .mv (.t 1), none⟩,
    ⟨some 57, .len (.t 56), none⟩,
    ⟨some 58, .bin .add (.t 55) (.t 57), none⟩,
    ⟨some 59, .mv (.t 7), none⟩,
    ⟨some 60, .ia (.t 54) (.t 58) 1, none⟩,
    ⟨none, .st 1 (.t 60) (.t 59), none⟩]))))
  (.reg [
    ⟨some 19, .mv (.t 6), none⟩,
    ⟨some 20, .bin .add (.t 19) (.c (.int .i64 1)), none⟩,
    ⟨some 6, .mv (.t 20), none⟩]))))))
 (.seq (.reg [
   ⟨some 61, .mv (.t 5), none⟩,
   ⟨some 62, .call (.f 191) [(.t 61)], none⟩,
   ⟨some 4, .mv (.t 62), none⟩])
 .ret)))),
  [.tmp 4]⟩
theorem c134 : chkFn Tryz.prog Tryz.f134 a134 = true := by kernel_rfl

/-- besom/fixed.tried[besom/api.Spot] -/
def a135 : TFn := ⟨(.reg [
   ⟨some 2, .alloc 24 [(.int .i64 0), (.int .i64 0)], none⟩,
   ⟨some 3, .alloc 29 [(.int .i64 0)], none⟩]), 192, [2, 3], 4,
 (.seq (.reg [
   ⟨some 5, .mv (.t 0), none⟩,
   ⟨some 6, .call (.t 5) [], none⟩,
   ⟨none, .st 2 (.t 2) (.t 6), none⟩,
   ⟨none, .st 1 (.t 3) (.c (.int .i64 0)), none⟩])
 .ret),
  [.cell 2 2 true, .cell 3 1 false], 6, 2,
 (.seq (.reg [
   ⟨some 8, .mv (.t 2), none⟩,
   ⟨some 9, .tas 219 [(.int .i64 0)] (.t 8), none⟩,
   ⟨some 7, .mv (.t 9), none⟩,
   ⟨some 10, .ext (.t 7) 0, none⟩,
   ⟨some 11, .ext (.t 7) 1, none⟩,
   ⟨some 3, .alloc 219 [(.int .i64 0)], none⟩,
   ⟨none, .st 1 (.t 3) (.t 10), none⟩,
   ⟨some 4, .mv (.t 11), none⟩])
 (.seq (.reg [
   ⟨some 12, .mv (.t 4), none⟩])
 (.cond (.t 12) (.seq (.reg [
    ⟨some 5, .alloc 24 [(.int .i64 0), (.int .i64 0)], none⟩])
  (.drw [
    (⟨some 13, .ld 2 true (.t 5), none⟩, []),
    (⟨some 14, .fa (.t 3) 0, none⟩, []),
    (⟨some 15, .ld 1 false (.t 14), none⟩, [1]),
    (⟨none, .st 2 (.t 0) (.t 13), none⟩, [0]),
    (⟨none, .st 1 (.t 1) (.t 15), none⟩, [2, 1, 3, 0])]))
 (.seq (.reg [
    ⟨some 16, .mv (.t 2), none⟩,
    ⟨some 17, .ifn true (.t 16), none⟩])
  (.cond (.t 17) (.reg [
     ⟨some 18, .mv (.t 2), none⟩,
     ⟨none, .pan (.t 18), none⟩])
  .skip)))))⟩
theorem c135 : chkMain Tryz.prog Tryz.f135 a135 = true := by kernel_rfl
theorem d135 : chkDef Tryz.prog Tryz.f192 a135 = true := by kernel_rfl

/-- besom/fixed.Unit$1 -/
def a136 : AFn := ⟨1, (.seq (.reg [
   ⟨some 1, .alloc 24 [(.int .i64 0), (.int .i64 0)], none⟩])
 (.seq (.reg [
   ⟨some 5, .ld 2 true (.t 0), none⟩,
   ⟨some 6, .call (.f 124) [(.t 5)], none⟩,
   ⟨some 2, .alloc 167 [(.int .u64 0), (.int .u64 0)], none⟩,
   ⟨none, .st 2 (.t 2) (.t 6), none⟩])
 (.seq (.reg [
   ⟨some 7, .ld 2 true (.t 2), none⟩,
   ⟨some 8, .bld [(.int .u64 0), (.int .u64 0)] [], none⟩,
   ⟨some 9, .eqa true [.int .u64, .int .u64] (.t 7) (.t 8), none⟩,
   ⟨some 10, .call (.f 100) [(.t 9), (.c (.int .i64 10))], none⟩])
 (.seq (.reg [
   ⟨some 12, .ld 2 true (.t 0), none⟩,
   ⟨some 13, .ld 2 true (.t 0), none⟩,
   ⟨some 14, .mkf 137 [] [(.t 2)], none⟩,
   ⟨some 15, .call (.f 92) [(.t 12), (.t 13), (.t 14)], none⟩,
   ⟨some 11, .mv (.t 15), none⟩,
   ⟨some 16, .ext (.t 11) 0, none⟩,
   ⟨some 17, .ext (.t 11) 1, none⟩,
   ⟨some 3, .alloc 24 [(.int .i64 0), (.int .i64 0)], none⟩,
   ⟨none, .st 2 (.t 3) (.t 16), none⟩,
   ⟨some 4, .mv (.t 17), none⟩])
 (.seq (.reg [
   ⟨some 18, .ld 2 true (.t 3), none⟩,
   ⟨none, .st 2 (.t 1) (.t 18), none⟩])
 .ret))))),
  [.cell 1 2 true]⟩
theorem c136 : chkFn Tryz.prog Tryz.f136 a136 = true := by kernel_rfl

/-- besom/fixed.Unit$1$1 -/
def a137 : AFn := ⟨3, (.seq (.reg [
   ⟨some 5, .mv (.c (.int .i64 0)), none⟩])
 (.seq (.drw [
   (⟨some 6, .mv (.t 0), none⟩, []),
   (⟨some 7, .call (.f 126) [(.t 6)], none⟩, [0]),
   (⟨some 8, .ld 2 true (.t 2), none⟩, []),
   (⟨some 9, .call (.f 139) [(.t 7), (.t 8)], none⟩, [1, 0, 2]),
   (⟨some 10, .mv (.t 0), none⟩, []),
   (⟨some 11, .bin .lss (.t 10) (.c (.int .i64 0)), none⟩, [4]),
   (⟨some 12, .call (.f 138) [(.t 9), (.t 11)], none⟩, [3, 1, 0, 2, 5, 4]),
   (⟨some 5, .mv (.t 12), none⟩, [6, 3, 1, 0, 2, 5, 4])])
 .ret)),
  [.tmp 5]⟩
theorem c137 : chkFn Tryz.prog Tryz.f137 a137 = true := by kernel_rfl

/-- besom/fixed.signed -/
def a138 : AFn := ⟨2, (.seq (.reg [
   ⟨some 4, .mv (.c (.int .i64 0)), none⟩])
 (.seq (.reg [
   ⟨some 5, .mv (.t 0), none⟩,
   ⟨some 6, .bin .leq (.t 5) (.c (.int .u64 70368744177664)), none⟩,
   ⟨some 7, .call (.f 100) [(.t 6), (.c (.int .i64 4))], none⟩])
 (.seq (.seq (.reg [
   ⟨some 8, .mv (.t 1), none⟩])
 (.cond (.t 8) (.seq (.reg [
    ⟨some 9, .mv (.t 0), none⟩,
    ⟨some 10, .cv .i64 (.t 9), none⟩,
    ⟨some 11, .neg (.t 10), none⟩,
    ⟨some 4, .mv (.t 11), none⟩])
  .ret)
 .skip))
 (.seq (.reg [
   ⟨some 12, .mv (.t 0), none⟩,
   ⟨some 13, .cv .i64 (.t 12), none⟩,
   ⟨some 4, .mv (.t 13), none⟩])
 .ret)))),
  [.tmp 4]⟩
theorem c138 : chkFn Tryz.prog Tryz.f138 a138 = true := by kernel_rfl

/-- besom/fixed.share -/
def a139 : AFn := ⟨2, (.seq (.reg [
   ⟨some 3, .box 167 (.t 1), none⟩,
   ⟨some 4, .mv (.c (.int .u64 0)), none⟩])
 (.seq (.reg [
   ⟨some 5, .mv (.c (.int .u64 0)), none⟩])
 (.seq (.seq (.reg [
   ⟨some 6, .mv (.c (.int .u64 65536)), none⟩])
 (.blk 0 (.loop 0 (.seq (.seq (.reg [
    ⟨some 8, .mv (.t 6), none⟩,
    ⟨some 9, .bin .gtr (.t 8) (.c (.int .u64 0)), none⟩])
  (.cond (.t 9) .skip
  (.exit 0)))
  (.seq (.blk 1 (.seq (.reg [
    ⟨some 12, .mv (.t 5), none⟩,
    ⟨some 13, .mv (.t 6), none⟩,
    ⟨some 14, .bin .or (.t 12) (.t 13), none⟩,
    ⟨some 7, .mv (.t 14), none⟩])
  (.seq (.reg [
    ⟨some 15, .mv (.t 7), none⟩,
    ⟨some 16, .bin .leq (.t 15) (.c (.int .u64 65536)), none⟩,
    ⟨some 17, .mv (.t 16), none⟩,
    ⟨some 18, .mv (.t 7), some (17, true)⟩,
    ⟨some 19, .ld 2 true (.t 3), some (17, true)⟩,
    ⟨some 20, .mv (.t 0), some (17, true)⟩,
    ⟨some 21, .call (.f 193) [(.t 18), (.t 19), (.t 20)], some (17, true)⟩,
    ⟨some 22, .pick (.t 17) (.t 21) (.c (.bool false)), none⟩])
  (.cond (.t 22) (.reg [
     ⟨some 23, .mv (.t 7), none⟩,
     ⟨some 5, .mv (.t 23), none⟩])
  .skip))))
  (.reg [
    ⟨some 10, .mv (.t 6), none⟩,
    ⟨some 11, .bin .shr (.t 10) (.c (.int .u64 1)), none⟩,
    ⟨some 6, .mv (.t 11), none⟩]))))))
 (.seq (.reg [
   ⟨some 24, .mv (.t 5), none⟩,
   ⟨some 4, .mv (.t 24), none⟩])
 .ret)))),
  [.tmp 4]⟩
theorem c139 : chkFn Tryz.prog Tryz.f139 a139 = true := by kernel_rfl

/-- besom/fixed.Dot$1 -/
def a140 : AFn := ⟨3, (.seq (.reg [
   ⟨some 3, .mv (.c (.int .i64 0)), none⟩])
 (.seq (.reg [
   ⟨some 9, .fa (.t 0) 0, none⟩,
   ⟨some 10, .ld 1 false (.t 9), none⟩,
   ⟨some 11, .fa (.t 0) 1, none⟩,
   ⟨some 12, .ld 1 false (.t 11), none⟩,
   ⟨some 13, .fa (.t 1) 0, none⟩,
   ⟨some 14, .ld 1 false (.t 13), none⟩,
   ⟨some 15, .fa (.t 1) 1, none⟩,
   ⟨some 16, .ld 1 false (.t 15), none⟩,
   ⟨some 17, .bsl 22 [.int .i64] 4 [(.int .i64 0), (.int .i64 0), (.int .i64 0), (.int .i64 0)] [(0, 1, (.t 10)), (1, 1, (.t 12)), (2, 1, (.t 14)), (3, 1, (.t 16))], none⟩,
   ⟨some 18, .call (.f 98) [(.t 17)], none⟩])
 (.seq (.reg [
   ⟨some 19, .ld 1 false (.t 2), none⟩,
   ⟨some 20, .call (.f 99) [(.t 19)], none⟩,
   ⟨some 4, .mv (.t 20), none⟩])
 (.seq (.drw [
   (⟨some 21, .fa (.t 0) 0, none⟩, []),
   (⟨some 22, .ld 1 false (.t 21), none⟩, [0]),
   (⟨some 23, .call (.f 126) [(.t 22)], none⟩, [1, 0]),
   (⟨some 24, .fa (.t 1) 0, none⟩, []),
   (⟨some 25, .ld 1 false (.t 24), none⟩, [3]),
   (⟨some 26, .call (.f 126) [(.t 25)], none⟩, [4, 3, 2, 1, 0]),
   (⟨some 27, .call (.f 102) [(.t 23), (.t 26)], none⟩, [2, 1, 0, 5, 4, 3]),
   (⟨some 28, .fa (.t 0) 1, none⟩, []),
   (⟨some 29, .ld 1 false (.t 28), none⟩, [7]),
   (⟨some 30, .call (.f 126) [(.t 29)], none⟩, [8, 7, 6, 2, 1, 0, 5, 4, 3]),
   (⟨some 31, .fa (.t 1) 1, none⟩, []),
   (⟨some 32, .ld 1 false (.t 31), none⟩, [10]),
   (⟨some 33, .call (.f 126) [(.t 32)], none⟩, [11, 10, 9, 8, 7, 6, 2, 1, 0, 5, 4, 3]),
   (⟨some 34, .call (.f 102) [(.t 30), (.t 33)], none⟩, [9, 8, 7, 6, 2, 1, 0, 5, 4, 3, 12, 11, 10]),
   (⟨some 5, .alloc 167 [(.int .u64 0), (.int .u64 0)], none⟩, []),
   (⟨some 6, .alloc 167 [(.int .u64 0), (.int .u64 0)], none⟩, []),
   (⟨none, .st 2 (.t 5) (.t 27), none⟩, [14, 6, 2, 1, 0, 5, 4, 3, 13, 9, 8, 7, 12, 11, 10, 15]),
   (⟨none, .st 2 (.t 6) (.t 34), none⟩, [15, 13, 9, 8, 7, 6, 2, 1, 0, 5, 4, 3, 12, 11, 10, 16, 14])])
 (.seq (.drw [
   (⟨some 35, .fa (.t 0) 0, none⟩, []),
   (⟨some 36, .ld 1 false (.t 35), none⟩, [0]),
   (⟨some 37, .bin .lss (.t 36) (.c (.int .i64 0)), none⟩, [1, 0]),
   (⟨some 38, .fa (.t 1) 0, none⟩, []),
   (⟨some 39, .ld 1 false (.t 38), none⟩, [3]),
   (⟨some 40, .bin .lss (.t 39) (.c (.int .i64 0)), none⟩, [4, 3]),
   (⟨some 41, .binb true (.t 37) (.t 40), none⟩, [2, 1, 0, 5, 4, 3]),
   (⟨some 42, .fa (.t 0) 1, none⟩, []),
   (⟨some 43, .ld 1 false (.t 42), none⟩, [7]),
   (⟨some 44, .bin .lss (.t 43) (.c (.int .i64 0)), none⟩, [8, 7]),
   (⟨some 45, .fa (.t 1) 1, none⟩, []),
   (⟨some 46, .ld 1 false (.t 45), none⟩, [10]),
   (⟨some 47, .bin .lss (.t 46) (.c (.int .i64 0)), none⟩, [11, 10]),
   (⟨some 48, .binb true (.t 44) (.t 47), none⟩, [9, 8, 7, 12, 11, 10]),
   (⟨some 7, .mv (.t 41), none⟩, [6, 2, 1, 0, 5, 4, 3]),
   (⟨some 8, .mv (.t 48), none⟩, [13, 9, 8, 7, 12, 11, 10, 14, 6, 2, 1, 0, 5, 4, 3])])
 (.seq (.blk 0 (.seq (.reg [
   ⟨some 50, .mv (.t 7), none⟩,
   ⟨some 51, .mv (.t 8), none⟩,
   ⟨some 52, .binb false (.t 50) (.t 51), none⟩,
   ⟨some 49, .mv (.t 52), none⟩])
 (.cond (.t 49) (.seq (.reg [
    ⟨some 53, .ld 2 true (.t 5), none⟩,
    ⟨some 54, .ld 2 true (.t 6), none⟩,
    ⟨some 55, .call (.f 142) [(.t 53), (.t 54)], none⟩,
    ⟨some 56, .mv (.t 7), none⟩,
    ⟨some 57, .mv (.t 4), none⟩,
    ⟨some 58, .call (.f 141) [(.t 55), (.c (.int .u64 65536)), (.t 56), (.t 57)], none⟩,
    ⟨some 3, .mv (.t 58), none⟩])
  .ret)
 (.seq (.reg [
    ⟨some 60, .ld 2 true (.t 5), none⟩,
    ⟨some 61, .ld 2 true (.t 6), none⟩,
    ⟨some 62, .call (.f 125) [(.t 60), (.t 61)], none⟩,
    ⟨some 63, .bin .geq (.t 62) (.c (.int .i64 0)), none⟩,
    ⟨some 59, .mv (.t 63), none⟩])
  (.cond (.t 59) (.seq (.reg [
     ⟨some 64, .ld 2 true (.t 5), none⟩,
     ⟨some 65, .ld 2 true (.t 6), none⟩,
     ⟨some 66, .call (.f 143) [(.t 64), (.t 65)], none⟩,
     ⟨some 67, .mv (.t 7), none⟩,
     ⟨some 68, .mv (.t 4), none⟩,
     ⟨some 69, .call (.f 141) [(.t 66), (.c (.int .u64 65536)), (.t 67), (.t 68)], none⟩,
     ⟨some 3, .mv (.t 69), none⟩])
   .ret)
  .skip)))))
 (.seq (.reg [
   ⟨some 70, .ld 2 true (.t 6), none⟩,
   ⟨some 71, .ld 2 true (.t 5), none⟩,
   ⟨some 72, .call (.f 143) [(.t 70), (.t 71)], none⟩,
   ⟨some 73, .mv (.t 8), none⟩,
   ⟨some 74, .mv (.t 4), none⟩,
   ⟨some 75, .call (.f 141) [(.t 72), (.c (.int .u64 65536)), (.t 73), (.t 74)], none⟩,
   ⟨some 3, .mv (.t 75), none⟩])
 .ret))))))),
  [.tmp 3]⟩
theorem c140 : chkFn Tryz.prog Tryz.f140 a140 = true := by kernel_rfl

/-- besom/fixed.quotient -/
def a141 : AFn := ⟨4, (.seq (.reg [
   ⟨some 4, .box 167 (.t 0), none⟩,
   ⟨some 8, .mv (.c (.int .i64 0)), none⟩])
 (.seq (.reg [
   ⟨some 13, .ld 2 true (.t 4), none⟩,
   ⟨some 14, .mv (.t 1), none⟩,
   ⟨some 15, .call (.f 194) [(.t 13), (.t 14)], none⟩,
   ⟨some 12, .mv (.t 15), none⟩,
   ⟨some 16, .ext (.t 12) 0, none⟩,
   ⟨some 17, .ext (.t 12) 1, none⟩,
   ⟨some 18, .ext (.t 12) 2, none⟩,
   ⟨some 9, .mv (.t 16), none⟩,
   ⟨some 10, .mv (.t 17), none⟩,
   ⟨some 11, .mv (.t 18), none⟩])
 (.seq (.reg [
   ⟨some 19, .mv (.t 11), none⟩,
   ⟨some 20, .mv (.t 19), none⟩,
   ⟨some 21, .mv (.t 9), some (20, true)⟩,
   ⟨some 22, .bin .lss (.t 21) (.c (.int .u64 9223372036854775808)), some (20, true)⟩,
   ⟨some 23, .pick (.t 20) (.t 22) (.c (.bool false)), none⟩,
   ⟨some 24, .call (.f 100) [(.t 23), (.c (.int .i64 4))], none⟩])
 (.seq (.seq (.reg [
   ⟨some 25, .mv (.t 10), none⟩,
   ⟨some 26, .bin .gtr (.t 25) (.c (.int .u64 0)), none⟩,
   ⟨some 27, .mv (.t 26), none⟩,
   ⟨some 28, .mv (.t 3), some (27, true)⟩,
   ⟨some 29, .mv (.t 10), some (27, true)⟩,
   ⟨some 30, .bld [(.int .u64 0), (.int .u64 0)] [(1, 1, (.t 29))], some (27, true)⟩,
   ⟨some 31, .mv (.t 10), some (27, true)⟩,
   ⟨some 32, .bld [(.int .u64 0), (.int .u64 0)] [(1, 1, (.t 31))], some (27, true)⟩,
   ⟨some 33, .call (.f 142) [(.t 30), (.t 32)], some (27, true)⟩,
   ⟨some 34, .mv (.t 1), some (27, true)⟩,
   ⟨some 35, .bld [(.int .u64 0), (.int .u64 0)] [(1, 1, (.t 34))], some (27, true)⟩,
   ⟨some 36, .call (.f 125) [(.t 33), (.t 35)], some (27, true)⟩,
   ⟨some 37, .mv (.t 2), some (27, true)⟩,
   ⟨some 38, .call (.t 28) [(.t 36), (.t 37)], some (27, true)⟩,
   ⟨some 39, .pick (.t 27) (.t 38) (.c (.bool false)), none⟩])
 (.cond (.t 39) (.reg [
    ⟨some 40, .mv (.t 9), none⟩,
    ⟨some 41, .bin .add (.t 40) (.c (.int .u64 1)), none⟩,
    ⟨some 9, .mv (.t 41), none⟩])
 .skip))
 (.seq (.reg [
   ⟨some 42, .mv (.t 9), none⟩,
   ⟨some 43, .mv (.t 2), none⟩,
   ⟨some 44, .call (.f 138) [(.t 42), (.t 43)], none⟩,
   ⟨some 8, .mv (.t 44), none⟩])
 .ret))))),
  [.tmp 8]⟩
theorem c141 : chkFn Tryz.prog Tryz.f141 a141 = true := by kernel_rfl

/-- (besom/fixed.wide).plus -/
def a142 : AFn := ⟨2, (.seq (.reg [
   ⟨some 2, .box 167 (.t 0), none⟩,
   ⟨some 3, .box 167 (.t 1), none⟩,
   ⟨some 4, .alloc 167 [(.int .u64 0), (.int .u64 0)], none⟩])
 (.seq (.reg [
   ⟨some 10, .fa (.t 2) 1, none⟩,
   ⟨some 11, .ld 1 false (.t 10), none⟩,
   ⟨some 12, .fa (.t 3) 1, none⟩,
   ⟨some 13, .ld 1 false (.t 12), none⟩,
   ⟨some 14, .call (.f 195) [(.t 11), (.t 13), (.c (.int .u64 0))], none⟩,
   ⟨some 9, .mv (.t 14), none⟩,
   ⟨some 15, .ext (.t 9) 0, none⟩,
   ⟨some 16, .ext (.t 9) 1, none⟩,
   ⟨some 5, .mv (.t 15), none⟩,
   ⟨some 6, .mv (.t 16), none⟩])
 (.seq (.reg [
   ⟨some 18, .fa (.t 2) 0, none⟩,
   ⟨some 19, .ld 1 false (.t 18), none⟩,
   ⟨some 20, .fa (.t 3) 0, none⟩,
   ⟨some 21, .ld 1 false (.t 20), none⟩,
   ⟨some 22, .mv (.t 6), none⟩,
   ⟨some 23, .call (.f 195) [(.t 19), (.t 21), (.t 22)], none⟩,
   ⟨some 17, .mv (.t 23), none⟩,
   ⟨some 24, .ext (.t 17) 0, none⟩,
   ⟨some 25, .ext (.t 17) 1, none⟩,
   ⟨some 7, .mv (.t 24), none⟩,
   ⟨some 8, .mv (.t 25), none⟩])
 (.seq (.reg [
   ⟨some 26, .mv (.t 7), none⟩,
   ⟨some 27, .mv (.t 5), none⟩,
   ⟨some 28, .bld [(.int .u64 0), (.int .u64 0)] [(0, 1, (.t 26)), (1, 1, (.t 27))], none⟩,
   ⟨none, .st 2 (.t 4) (.t 28), none⟩])
 .ret)))),
  [.cell 4 2 true]⟩
theorem c142 : chkFn Tryz.prog Tryz.f142 a142 = true := by kernel_rfl

/-- (besom/fixed.wide).minus -/
def a143 : AFn := ⟨2, (.seq (.reg [
   ⟨some 2, .box 167 (.t 0), none⟩,
   ⟨some 3, .box 167 (.t 1), none⟩,
   ⟨some 4, .alloc 167 [(.int .u64 0), (.int .u64 0)], none⟩])
 (.seq (.reg [
   ⟨some 10, .fa (.t 2) 1, none⟩,
   ⟨some 11, .ld 1 false (.t 10), none⟩,
   ⟨some 12, .fa (.t 3) 1, none⟩,
   ⟨some 13, .ld 1 false (.t 12), none⟩,
   ⟨some 14, .call (.f 196) [(.t 11), (.t 13), (.c (.int .u64 0))], none⟩,
   ⟨some 9, .mv (.t 14), none⟩,
   ⟨some 15, .ext (.t 9) 0, none⟩,
   ⟨some 16, .ext (.t 9) 1, none⟩,
   ⟨some 5, .mv (.t 15), none⟩,
   ⟨some 6, .mv (.t 16), none⟩])
 (.seq (.reg [
   ⟨some 18, .fa (.t 2) 0, none⟩,
   ⟨some 19, .ld 1 false (.t 18), none⟩,
   ⟨some 20, .fa (.t 3) 0, none⟩,
   ⟨some 21, .ld 1 false (.t 20), none⟩,
   ⟨some 22, .mv (.t 6), none⟩,
   ⟨some 23, .call (.f 196) [(.t 19), (.t 21), (.t 22)], none⟩,
   ⟨some 17, .mv (.t 23), none⟩,
   ⟨some 24, .ext (.t 17) 0, none⟩,
   ⟨some 25, .ext (.t 17) 1, none⟩,
   ⟨some 7, .mv (.t 24), none⟩,
   ⟨some 8, .mv (.t 25), none⟩])
 (.seq (.reg [
   ⟨some 26, .mv (.t 7), none⟩,
   ⟨some 27, .mv (.t 5), none⟩,
   ⟨some 28, .bld [(.int .u64 0), (.int .u64 0)] [(0, 1, (.t 26)), (1, 1, (.t 27))], none⟩,
   ⟨none, .st 2 (.t 4) (.t 28), none⟩])
 .ret)))),
  [.cell 4 2 true]⟩
theorem c143 : chkFn Tryz.prog Tryz.f143 a143 = true := by kernel_rfl

/-- besom/fixed.tried[besom/fixed.rounding] -/
def a144 : TFn := ⟨(.reg [
   ⟨some 2, .alloc 161 [.nfn], none⟩,
   ⟨some 3, .alloc 29 [(.int .i64 0)], none⟩]), 197, [2, 3], 4,
 (.seq (.reg [
   ⟨some 5, .mv (.t 0), none⟩,
   ⟨some 6, .call (.t 5) [], none⟩,
   ⟨none, .st 1 (.t 2) (.t 6), none⟩,
   ⟨none, .st 1 (.t 3) (.c (.int .i64 0)), none⟩])
 .ret),
  [.cell 2 1 false, .cell 3 1 false], 6, 2,
 (.seq (.reg [
   ⟨some 8, .mv (.t 2), none⟩,
   ⟨some 9, .tas 219 [(.int .i64 0)] (.t 8), none⟩,
   ⟨some 7, .mv (.t 9), none⟩,
   ⟨some 10, .ext (.t 7) 0, none⟩,
   ⟨some 11, .ext (.t 7) 1, none⟩,
   ⟨some 3, .alloc 219 [(.int .i64 0)], none⟩,
   ⟨none, .st 1 (.t 3) (.t 10), none⟩,
   ⟨some 4, .mv (.t 11), none⟩])
 (.seq (.reg [
   ⟨some 12, .mv (.t 4), none⟩])
 (.cond (.t 12) (.seq (.reg [
    ⟨some 5, .mv (.c .nfn), none⟩])
  (.drw [
    (⟨some 13, .mv (.t 5), none⟩, []),
    (⟨some 14, .fa (.t 3) 0, none⟩, []),
    (⟨some 15, .ld 1 false (.t 14), none⟩, [1]),
    (⟨none, .st 1 (.t 0) (.t 13), none⟩, [0]),
    (⟨none, .st 1 (.t 1) (.t 15), none⟩, [2, 1, 3, 0])]))
 (.seq (.reg [
    ⟨some 16, .mv (.t 2), none⟩,
    ⟨some 17, .ifn true (.t 16), none⟩])
  (.cond (.t 17) (.reg [
     ⟨some 18, .mv (.t 2), none⟩,
     ⟨none, .pan (.t 18), none⟩])
  .skip)))))⟩
theorem c144 : chkMain Tryz.prog Tryz.f144 a144 = true := by kernel_rfl
theorem d144 : chkDef Tryz.prog Tryz.f197 a144 = true := by kernel_rfl

/-- besom/fixed.Times$1 -/
def a145 : AFn := ⟨3, (.seq (.reg [
   ⟨some 3, .mv (.c .nfn), none⟩])
 (.seq (.reg [
   ⟨some 4, .fa (.t 0) 0, none⟩,
   ⟨some 5, .ld 1 false (.t 4), none⟩,
   ⟨some 6, .fa (.t 0) 1, none⟩,
   ⟨some 7, .ld 1 false (.t 6), none⟩,
   ⟨some 8, .ld 1 false (.t 1), none⟩,
   ⟨some 9, .bsl 22 [.int .i64] 3 [(.int .i64 0), (.int .i64 0), (.int .i64 0)] [(0, 1, (.t 5)), (1, 1, (.t 7)), (2, 1, (.t 8))], none⟩,
   ⟨some 10, .call (.f 98) [(.t 9)], none⟩])
 (.seq (.reg [
   ⟨some 11, .ld 1 false (.t 2), none⟩,
   ⟨some 12, .call (.f 99) [(.t 11)], none⟩,
   ⟨some 3, .mv (.t 12), none⟩])
 .ret))),
  [.tmp 3]⟩
theorem c145 : chkFn Tryz.prog Tryz.f145 a145 = true := by kernel_rfl

/-- besom/fixed.Times$2 -/
def a146 : AFn := ⟨4, (.seq (.reg [
   ⟨some 6, .mv (.c (.int .i64 0)), none⟩])
 (.seq (.reg [
   ⟨some 7, .mv (.t 0), none⟩,
   ⟨some 8, .ld 1 false (.t 2), none⟩,
   ⟨some 9, .ld 1 false (.t 3), none⟩,
   ⟨some 10, .call (.f 147) [(.t 7), (.t 8), (.t 9)], none⟩,
   ⟨some 6, .mv (.t 10), none⟩])
 .ret)),
  [.tmp 6]⟩
theorem c146 : chkFn Tryz.prog Tryz.f146 a146 = true := by kernel_rfl

/-- besom/fixed.mul -/
def a147 : AFn := ⟨3, (.seq (.reg [
   ⟨some 6, .mv (.c (.int .i64 0)), none⟩])
 (.seq (.reg [
   ⟨some 7, .mv (.t 0), none⟩,
   ⟨some 8, .mv (.t 1), none⟩,
   ⟨some 9, .bsl 22 [.int .i64] 2 [(.int .i64 0), (.int .i64 0)] [(0, 1, (.t 7)), (1, 1, (.t 8))], none⟩,
   ⟨some 10, .call (.f 98) [(.t 9)], none⟩])
 (.seq (.reg [
   ⟨some 11, .mv (.t 0), none⟩,
   ⟨some 12, .call (.f 126) [(.t 11)], none⟩,
   ⟨some 13, .mv (.t 1), none⟩,
   ⟨some 14, .call (.f 126) [(.t 13)], none⟩,
   ⟨some 15, .call (.f 102) [(.t 12), (.t 14)], none⟩,
   ⟨some 16, .mv (.t 0), none⟩,
   ⟨some 17, .bin .lss (.t 16) (.c (.int .i64 0)), none⟩,
   ⟨some 18, .mv (.t 1), none⟩,
   ⟨some 19, .bin .lss (.t 18) (.c (.int .i64 0)), none⟩,
   ⟨some 20, .binb true (.t 17) (.t 19), none⟩,
   ⟨some 21, .mv (.t 2), none⟩,
   ⟨some 22, .call (.f 141) [(.t 15), (.c (.int .u64 65536)), (.t 20), (.t 21)], none⟩,
   ⟨some 6, .mv (.t 22), none⟩])
 .ret))),
  [.tmp 6]⟩
theorem c147 : chkFn Tryz.prog Tryz.f147 a147 = true := by kernel_rfl

/-- besom/fixed.Scale$1 -/
def a148 : AFn := ⟨4, (.seq (.reg [
   ⟨some 4, .mv (.c (.int .i64 0)), none⟩])
 (.seq (.reg [
   ⟨some 6, .ld 1 false (.t 0), none⟩,
   ⟨some 7, .bsl 22 [.int .i64] 1 [(.int .i64 0)] [(0, 1, (.t 6))], none⟩,
   ⟨some 8, .call (.f 98) [(.t 7)], none⟩])
 (.seq (.reg [
   ⟨some 9, .ld 1 false (.t 1), none⟩,
   ⟨some 10, .call (.f 99) [(.t 9)], none⟩,
   ⟨some 5, .mv (.t 10), none⟩])
 (.seq (.reg [
   ⟨some 11, .ld 1 false (.t 2), none⟩,
   ⟨some 12, .bin .geq (.t 11) (.c (.int .i64 (-2147483648))), none⟩,
   ⟨some 13, .mv (.t 12), none⟩,
   ⟨some 14, .ld 1 false (.t 2), some (13, true)⟩,
   ⟨some 15, .bin .leq (.t 14) (.c (.int .i64 2147483648)), some (13, true)⟩,
   ⟨some 16, .pick (.t 13) (.t 15) (.c (.bool false)), none⟩,
   ⟨some 17, .mv (.t 16), none⟩,
   ⟨some 18, .ld 1 false (.t 3), some (17, true)⟩,
   ⟨some 19, .bin .geq (.t 18) (.c (.int .i64 (-2147483648))), some (17, true)⟩,
   ⟨some 20, .pick (.t 17) (.t 19) (.c (.bool false)), none⟩,
   ⟨some 21, .mv (.t 20), none⟩,
   ⟨some 22, .ld 1 false (.t 3), some (21, true)⟩,
   ⟨some 23, .bin .leq (.t 22) (.c (.int .i64 2147483648)), some (21, true)⟩,
   ⟨some 24, .pick (.t 21) (.t 23) (.c (.bool false)), none⟩,
   ⟨some 25, .call (.f 100) [(.t 24), (.c (.int .i64 2))], none⟩])
 (.seq (.reg [
   ⟨some 26, .ld 1 false (.t 3), none⟩,
   ⟨some 27, .bin .neq (.t 26) (.c (.int .i64 0)), none⟩,
   ⟨some 28, .call (.f 100) [(.t 27), (.c (.int .i64 10))], none⟩])
 (.seq (.drw [
   (⟨some 29, .ld 1 false (.t 0), none⟩, []),
   (⟨some 30, .call (.f 126) [(.t 29)], none⟩, [0]),
   (⟨some 31, .ld 1 false (.t 2), none⟩, []),
   (⟨some 32, .call (.f 149) [(.t 31)], none⟩, [2, 1, 0]),
   (⟨some 33, .call (.f 102) [(.t 30), (.t 32)], none⟩, [1, 0, 3, 2]),
   (⟨some 34, .ld 1 false (.t 3), none⟩, []),
   (⟨some 35, .call (.f 149) [(.t 34)], none⟩, [5, 4, 1, 0, 3, 2]),
   (⟨some 36, .ld 1 false (.t 0), none⟩, []),
   (⟨some 37, .bin .lss (.t 36) (.c (.int .i64 0)), none⟩, [7]),
   (⟨some 38, .ld 1 false (.t 2), none⟩, []),
   (⟨some 39, .bin .lss (.t 38) (.c (.int .i64 0)), none⟩, [9]),
   (⟨some 40, .ld 1 false (.t 3), none⟩, []),
   (⟨some 41, .bin .lss (.t 40) (.c (.int .i64 0)), none⟩, [11]),
   (⟨some 42, .binb true (.t 39) (.t 41), none⟩, [10, 9, 12, 11]),
   (⟨some 43, .binb true (.t 37) (.t 42), none⟩, [8, 7, 13, 10, 9, 12, 11]),
   (⟨some 44, .mv (.t 5), none⟩, []),
   (⟨some 45, .call (.f 141) [(.t 33), (.t 35), (.t 43), (.t 44)], none⟩, [4, 1, 0, 3, 2, 6, 5, 14, 8, 7, 13, 10, 9, 12, 11, 15]),
   (⟨some 4, .mv (.t 45), none⟩, [16, 4, 1, 0, 3, 2, 6, 5, 14, 8, 7, 13, 10, 9, 12, 11, 15])])
 .ret)))))),
  [.tmp 4]⟩
theorem c148 : chkFn Tryz.prog Tryz.f148 a148 = true := by kernel_rfl

/-- besom/fixed.size[int] -/
def a149 : AFn := ⟨1, (.seq (.reg [
   ⟨some 2, .mv (.c (.int .u64 0)), none⟩])
 (.seq (.seq (.reg [
   ⟨some 3, .mv (.t 0), none⟩,
   ⟨some 4, .bin .lss (.t 3) (.c (.int .i64 0)), none⟩])
 (.cond (.t 4) (.seq (.reg [
    ⟨some 5, .mv (.t 0), none⟩,
    ⟨some 6, .cv .u64 (.t 5), none⟩,
    ⟨some 7, .neg (.t 6), none⟩,
    ⟨some 2, .mv (.t 7), none⟩])
  .ret)
 .skip))
 (.seq (.reg [
   ⟨some 8, .mv (.t 0), none⟩,
   ⟨some 9, .cv .u64 (.t 8), none⟩,
   ⟨some 2, .mv (.t 9), none⟩])
 .ret))),
  [.tmp 2]⟩
theorem c149 : chkFn Tryz.prog Tryz.f149 a149 = true := by kernel_rfl

/-- besom/besomref01.share -/
def a150 : AFn := ⟨2, (.seq (.reg [
   ⟨some 4, .mv (.c (.int .i64 0)), none⟩])
 (.seq (.reg [
   ⟨some 10, .mv (.t 0), none⟩,
   ⟨some 11, .call (.f 131) [(.t 10)], none⟩,
   ⟨some 12, .call (.f 130) [(.t 11)], none⟩,
   ⟨some 5, .mv (.t 12), none⟩])
 (.seq (.reg [
   ⟨some 13, .mv (.t 5), none⟩,
   ⟨some 14, .mv (.t 5), none⟩,
   ⟨some 15, .call (.f 134) [(.t 13), (.t 14)], none⟩,
   ⟨some 16, .call (.f 198) [(.t 15), (.c (.int .i64 32))], none⟩,
   ⟨some 6, .mv (.t 16), none⟩])
 (.seq (.reg [
   ⟨some 7, .mv (.c (.int .i64 0)), none⟩])
 (.seq (.seq (.reg [
   ⟨some 8, .mv (.c (.int .i64 65536)), none⟩])
 (.blk 0 (.loop 0 (.seq (.seq (.reg [
    ⟨some 17, .mv (.t 8), none⟩,
    ⟨some 18, .bin .gtr (.t 17) (.c (.int .i64 0)), none⟩])
  (.cond (.t 18) .skip
  (.exit 0)))
  (.seq (.blk 1 (.seq (.reg [
    ⟨some 21, .mv (.t 7), none⟩,
    ⟨some 22, .mv (.t 8), none⟩,
    ⟨some 23, .bin .add (.t 21) (.t 22), none⟩,
    ⟨some 24, .call (.f 130) [(.t 23)], none⟩,
    ⟨some 9, .mv (.t 24), none⟩])
  (.seq (.reg [
    ⟨some 25, .mv (.t 9), none⟩,
    ⟨some 26, .mv (.t 9), none⟩,
    ⟨some 27, .call (.f 134) [(.t 25), (.t 26)], none⟩,
    ⟨some 28, .mv (.t 1), none⟩,
    ⟨some 29, .call (.f 134) [(.t 27), (.t 28)], none⟩,
    ⟨some 30, .mv (.t 6), none⟩,
    ⟨some 31, .call (.f 132) [(.t 29), (.t 30)], none⟩,
    ⟨some 32, .bin .leq (.t 31) (.c (.int .i64 0)), none⟩])
  (.cond (.t 32) (.reg [
     ⟨some 33, .mv (.t 7), none⟩,
     ⟨some 34, .mv (.t 8), none⟩,
     ⟨some 35, .bin .add (.t 33) (.t 34), none⟩,
     ⟨some 7, .mv (.t 35), none⟩])
  .skip))))
  (.reg [
    ⟨some 19, .mv (.t 8), none⟩,
    ⟨some 20, .bin .quo (.t 19) (.c (.int .i64 2)), none⟩,
    ⟨some 8, .mv (.t 20), none⟩]))))))
 (.seq (.seq (.reg [
   ⟨some 36, .mv (.t 0), none⟩,
   ⟨some 37, .bin .lss (.t 36) (.c (.int .i64 0)), none⟩])
 (.cond (.t 37) (.seq (.reg [
    ⟨some 38, .mv (.t 7), none⟩,
    ⟨some 39, .neg (.t 38), none⟩,
    ⟨some 4, .mv (.t 39), none⟩])
  .ret)
 .skip))
 (.seq (.reg [
   ⟨some 40, .mv (.t 7), none⟩,
   ⟨some 4, .mv (.t 40), none⟩])
 .ret))))))),
  [.tmp 4]⟩
theorem c150 : chkFn Tryz.prog Tryz.f150 a150 = true := by kernel_rfl

/-- besom/besomref01.how1 -/
def a151 : AFn := ⟨1, (.seq (.reg [
   ⟨some 2, .mv (.c (.bool false)), none⟩])
 (.seq (.reg [
   ⟨some 3, .mv (.t 0), none⟩,
   ⟨some 4, .call (.f 87) [(.t 3), (.c (.int .i64 0)), (.c (.int .i64 3))], none⟩,
   ⟨some 2, .mv (.t 4), none⟩])
 .ret)),
  [.tmp 2]⟩
theorem c151 : chkFn Tryz.prog Tryz.f151 a151 = true := by kernel_rfl

/-- besom/besomref01.sum -/
def a152 : AFn := ⟨2, (.seq (.reg [
   ⟨some 2, .box 209 (.t 0), none⟩,
   ⟨some 3, .box 209 (.t 1), none⟩,
   ⟨some 4, .alloc 209 [(.bool false), .nsl], none⟩])
 (.seq (.seq (.reg [
   ⟨some 5, .fa (.t 2) 0, none⟩,
   ⟨some 6, .ld 1 false (.t 5), none⟩,
   ⟨some 7, .fa (.t 3) 0, none⟩,
   ⟨some 8, .ld 1 false (.t 7), none⟩,
   ⟨some 9, .binb false (.t 6) (.t 8), none⟩])
 (.cond (.t 9) (.seq (.drw [
    (⟨some 10, .fa (.t 2) 0, none⟩, []),
    (⟨some 11, .ld 1 false (.t 10), none⟩, [0]),
    (⟨some 12, .fa (.t 2) 1, none⟩, []),
    (⟨some 13, .ld 1 false (.t 12), none⟩, [2]),
    (⟨some 14, .fa (.t 3) 1, none⟩, []),
    (⟨some 15, .ld 1 false (.t 14), none⟩, [4]),
    (⟨some 16, .call (.f 190) [(.t 13), (.t 15)], none⟩, [3, 2, 5, 4]),
    (⟨some 17, .bld [(.bool false), .nsl] [(0, 1, (.t 11)), (1, 1, (.t 16))], none⟩, [1, 0, 6, 3, 2, 5, 4]),
    (⟨none, .st 2 (.t 4) (.t 17), none⟩, [7, 1, 0, 6, 3, 2, 5, 4])])
  .ret)
 .skip))
 (.seq (.seq (.reg [
   ⟨some 18, .fa (.t 2) 1, none⟩,
   ⟨some 19, .ld 1 false (.t 18), none⟩,
   ⟨some 20, .fa (.t 3) 1, none⟩,
   ⟨some 21, .ld 1 false (.t 20), none⟩,
   ⟨some 22, .call (.f 132) [(.t 19), (.t 21)], none⟩,
   ⟨some 23, .bin .geq (.t 22) (.c (.int .i64 0)), none⟩])
 (.cond (.t 23) (.seq (.drw [
    (⟨some 24, .fa (.t 2) 0, none⟩, []),
    (⟨some 25, .ld 1 false (.t 24), none⟩, [0]),
    (⟨some 26, .fa (.t 2) 1, none⟩, []),
    (⟨some 27, .ld 1 false (.t 26), none⟩, [2]),
    (⟨some 28, .fa (.t 3) 1, none⟩, []),
    (⟨some 29, .ld 1 false (.t 28), none⟩, [4]),
    (⟨some 30, .call (.f 199) [(.t 27), (.t 29)], none⟩, [3, 2, 5, 4]),
    (⟨some 31, .bld [(.bool false), .nsl] [(0, 1, (.t 25)), (1, 1, (.t 30))], none⟩, [1, 0, 6, 3, 2, 5, 4]),
    (⟨none, .st 2 (.t 4) (.t 31), none⟩, [7, 1, 0, 6, 3, 2, 5, 4])])
  .ret)
 .skip))
 (.seq (.drw [
   (⟨some 32, .fa (.t 3) 0, none⟩, []),
   (⟨some 33, .ld 1 false (.t 32), none⟩, [0]),
   (⟨some 34, .fa (.t 3) 1, none⟩, []),
   (⟨some 35, .ld 1 false (.t 34), none⟩, [2]),
   (⟨some 36, .fa (.t 2) 1, none⟩, []),
   (⟨some 37, .ld 1 false (.t 36), none⟩, [4]),
   (⟨some 38, .call (.f 199) [(.t 35), (.t 37)], none⟩, [3, 2, 5, 4]),
   (⟨some 39, .bld [(.bool false), .nsl] [(0, 1, (.t 33)), (1, 1, (.t 38))], none⟩, [1, 0, 6, 3, 2, 5, 4]),
   (⟨none, .st 2 (.t 4) (.t 39), none⟩, [7, 1, 0, 6, 3, 2, 5, 4])])
 .ret)))),
  [.cell 4 2 true]⟩
theorem c152 : chkFn Tryz.prog Tryz.f152 a152 = true := by kernel_rfl

/-- besom/besomref01.product -/
def a153 : AFn := ⟨2, (.seq (.reg [
   ⟨some 4, .alloc 209 [(.bool false), .nsl], none⟩])
 (.seq (.reg [
   ⟨some 5, .mv (.t 0), none⟩,
   ⟨some 6, .bin .lss (.t 5) (.c (.int .i64 0)), none⟩,
   ⟨some 7, .mv (.t 1), none⟩,
   ⟨some 8, .bin .lss (.t 7) (.c (.int .i64 0)), none⟩,
   ⟨some 9, .binb true (.t 6) (.t 8), none⟩,
   ⟨some 10, .mv (.t 0), none⟩,
   ⟨some 11, .call (.f 131) [(.t 10)], none⟩,
   ⟨some 12, .call (.f 130) [(.t 11)], none⟩,
   ⟨some 13, .mv (.t 1), none⟩,
   ⟨some 14, .call (.f 131) [(.t 13)], none⟩,
   ⟨some 15, .call (.f 130) [(.t 14)], none⟩,
   ⟨some 16, .call (.f 134) [(.t 12), (.t 15)], none⟩,
   ⟨some 17, .bld [(.bool false), .nsl] [(0, 1, (.t 9)), (1, 1, (.t 16))], none⟩,
   ⟨none, .st 2 (.t 4) (.t 17), none⟩])
 .ret)),
  [.cell 4 2 true]⟩
theorem c153 : chkFn Tryz.prog Tryz.f153 a153 = true := by kernel_rfl

/-- besom/besomref01.fit -/
def a154 : AFn := ⟨2, (.seq (.reg [
   ⟨some 4, .mv (.c (.int .i64 0)), none⟩,
   ⟨some 5, .mv (.c (.int .i64 0)), none⟩])
 (.seq (.seq (.reg [
   ⟨some 6, .mv (.t 1), none⟩,
   ⟨some 7, .not (.t 6), none⟩,
   ⟨some 8, .mv (.t 7), none⟩,
   ⟨some 9, .mv (.t 0), some (8, false)⟩,
   ⟨some 10, .bin .lss (.t 9) (.c (.int .i64 (-70368744177664))), some (8, false)⟩,
   ⟨some 11, .pick (.t 8) (.c (.bool true)) (.t 10), none⟩,
   ⟨some 12, .mv (.t 11), none⟩,
   ⟨some 13, .mv (.t 0), some (12, false)⟩,
   ⟨some 14, .bin .gtr (.t 13) (.c (.int .i64 70368744177664)), some (12, false)⟩,
   ⟨some 15, .pick (.t 12) (.c (.bool true)) (.t 14), none⟩])
 (.cond (.t 15) (.seq (.reg [
    ⟨some 4, .mv (.c (.int .i64 0)), none⟩,
    ⟨some 5, .mv (.c (.int .i64 4)), none⟩])
  .ret)
 .skip))
 (.seq (.reg [
   ⟨some 16, .mv (.t 0), none⟩,
   ⟨some 4, .mv (.t 16), none⟩,
   ⟨some 5, .mv (.c (.int .i64 0)), none⟩])
 .ret))),
  [.tmp 4, .tmp 5]⟩
theorem c154 : chkFn Tryz.prog Tryz.f154 a154 = true := by kernel_rfl

/-- besom/besomref01.rounded -/
def a155 : AFn := ⟨4, (.seq (.reg [
   ⟨some 8, .mv (.c (.int .i64 0)), none⟩,
   ⟨some 9, .mv (.c (.bool false)), none⟩])
 (.seq (.reg [
   ⟨some 16, .mv (.t 0), none⟩,
   ⟨some 17, .mv (.t 1), none⟩,
   ⟨some 18, .call (.f 200) [(.t 16), (.t 17)], none⟩,
   ⟨some 15, .mv (.t 18), none⟩,
   ⟨some 19, .ext (.t 15) 0, none⟩,
   ⟨some 20, .ext (.t 15) 1, none⟩,
   ⟨some 10, .mv (.t 19), none⟩,
   ⟨some 11, .mv (.t 20), none⟩])
 (.seq (.reg [
   ⟨some 22, .mv (.t 10), none⟩,
   ⟨some 23, .call (.f 201) [(.t 22)], none⟩,
   ⟨some 21, .mv (.t 23), none⟩,
   ⟨some 24, .ext (.t 21) 0, none⟩,
   ⟨some 25, .ext (.t 21) 1, none⟩,
   ⟨some 12, .mv (.t 24), none⟩,
   ⟨some 13, .mv (.t 25), none⟩])
 (.seq (.reg [
   ⟨some 26, .mv (.t 3), none⟩,
   ⟨some 27, .bin .eql (.t 26) (.c (.int .i64 2)), none⟩,
   ⟨some 28, .mv (.t 27), none⟩,
   ⟨some 29, .mv (.t 2), some (28, true)⟩,
   ⟨some 30, .not (.t 29), some (28, true)⟩,
   ⟨some 31, .pick (.t 28) (.t 30) (.c (.bool false)), none⟩,
   ⟨some 32, .mv (.t 31), none⟩,
   ⟨some 33, .mv (.t 3), some (32, false)⟩,
   ⟨some 34, .bin .eql (.t 33) (.c (.int .i64 1)), some (32, false)⟩,
   ⟨some 35, .mv (.t 34), some (32, false)⟩,
   ⟨some 36, .mv (.t 2), some (35, true)⟩,
   ⟨some 37, .pick (.t 35) (.t 36) (.c (.bool false)), some (32, false)⟩,
   ⟨some 38, .pick (.t 32) (.c (.bool true)) (.t 37), none⟩,
   ⟨some 14, .mv (.t 38), none⟩])
 (.seq (.seq (.reg [
   ⟨some 39, .mv (.t 3), none⟩,
   ⟨some 40, .bin .eql (.t 39) (.c (.int .i64 3)), none⟩])
 (.cond (.t 40) (.reg [
    ⟨some 41, .mv (.t 11), none⟩,
    ⟨some 42, .mv (.t 11), none⟩,
    ⟨some 43, .call (.f 190) [(.t 41), (.t 42)], none⟩,
    ⟨some 44, .mv (.t 1), none⟩,
    ⟨some 45, .call (.f 132) [(.t 43), (.t 44)], none⟩,
    ⟨some 46, .bin .geq (.t 45) (.c (.int .i64 0)), none⟩,
    ⟨some 14, .mv (.t 46), none⟩])
 .skip))
 (.seq (.seq (.reg [
   ⟨some 47, .mv (.t 14), none⟩,
   ⟨some 48, .mv (.t 47), none⟩,
   ⟨some 49, .mv (.t 11), some (48, true)⟩,
   ⟨some 50, .len (.t 49), some (48, true)⟩,
   ⟨some 51, .bin .gtr (.t 50) (.c (.int .i64 0)), some (48, true)⟩,
   ⟨some 52, .pick (.t 48) (.t 51) (.c (.bool false)), none⟩])
 (.cond (.t 52) (.reg [
    ⟨some 53, .mv (.t 12), none⟩,
    ⟨some 54, .bin .add (.t 53) (.c (.int .i64 1)), none⟩,
    ⟨some 12, .mv (.t 54), none⟩])
 .skip))
 (.seq (.seq (.reg [
   ⟨some 55, .mv (.t 2), none⟩])
 (.cond (.t 55) (.reg [
    ⟨some 56, .mv (.t 12), none⟩,
    ⟨some 57, .neg (.t 56), none⟩,
    ⟨some 12, .mv (.t 57), none⟩])
 .skip))
 (.seq (.reg [
   ⟨some 58, .mv (.t 12), none⟩,
   ⟨some 59, .mv (.t 13), none⟩,
   ⟨some 8, .mv (.t 58), none⟩,
   ⟨some 9, .mv (.t 59), none⟩])
 .ret)))))))),
  [.tmp 8, .tmp 9]⟩
theorem c155 : chkFn Tryz.prog Tryz.f155 a155 = true := by kernel_rfl

/-- besom/besomref01.Mul -/
def a156 : AFn := ⟨3, (.seq (.reg [
   ⟨some 6, .mv (.c (.int .i64 0)), none⟩,
   ⟨some 7, .mv (.c (.int .i64 0)), none⟩])
 (.seq (.reg [
   ⟨some 10, .mv (.t 0), none⟩,
   ⟨some 11, .call (.f 129) [(.t 10)], none⟩,
   ⟨some 12, .mv (.t 11), none⟩,
   ⟨some 13, .mv (.t 1), some (12, true)⟩,
   ⟨some 14, .call (.f 129) [(.t 13)], some (12, true)⟩,
   ⟨some 15, .pick (.t 12) (.t 14) (.c (.bool false)), none⟩,
   ⟨some 8, .mv (.t 15), none⟩])
 (.seq (.reg [
   ⟨some 16, .mv (.t 2), none⟩,
   ⟨some 17, .call (.f 151) [(.t 16)], none⟩,
   ⟨some 9, .mv (.t 17), none⟩])
 (.seq (.seq (.reg [
   ⟨some 18, .mv (.t 8), none⟩,
   ⟨some 19, .not (.t 18), none⟩,
   ⟨some 20, .mv (.t 19), none⟩,
   ⟨some 21, .mv (.t 9), some (20, false)⟩,
   ⟨some 22, .not (.t 21), some (20, false)⟩,
   ⟨some 23, .pick (.t 20) (.c (.bool true)) (.t 22), none⟩])
 (.cond (.t 23) (.seq (.reg [
    ⟨some 6, .mv (.c (.int .i64 0)), none⟩,
    ⟨some 7, .mv (.c (.int .i64 2)), none⟩])
  .ret)
 .skip))
 (.seq (.reg [
   ⟨some 24, .mv (.t 0), none⟩,
   ⟨some 25, .call (.f 131) [(.t 24)], none⟩,
   ⟨some 26, .call (.f 130) [(.t 25)], none⟩,
   ⟨some 27, .mv (.t 1), none⟩,
   ⟨some 28, .call (.f 131) [(.t 27)], none⟩,
   ⟨some 29, .call (.f 130) [(.t 28)], none⟩,
   ⟨some 30, .call (.f 134) [(.t 26), (.t 29)], none⟩,
   ⟨some 31, .call (.f 130) [(.c (.int .i64 65536))], none⟩,
   ⟨some 32, .mv (.t 0), none⟩,
   ⟨some 33, .bin .lss (.t 32) (.c (.int .i64 0)), none⟩,
   ⟨some 34, .mv (.t 1), none⟩,
   ⟨some 35, .bin .lss (.t 34) (.c (.int .i64 0)), none⟩,
   ⟨some 36, .binb true (.t 33) (.t 35), none⟩,
   ⟨some 37, .mv (.t 2), none⟩,
   ⟨some 38, .call (.f 155) [(.t 30), (.t 31), (.t 36), (.t 37)], none⟩,
   ⟨some 39, .ext (.t 38) 0, none⟩,
   ⟨some 40, .ext (.t 38) 1, none⟩,
   ⟨some 41, .call (.f 154) [(.t 39), (.t 40)], none⟩,
   ⟨some 42, .ext (.t 41) 0, none⟩,
   ⟨some 43, .ext (.t 41) 1, none⟩,
   ⟨some 6, .mv (.t 42), none⟩,
   ⟨some 7, .mv (.t 43), none⟩])
 .ret))))),
  [.tmp 6, .tmp 7]⟩
theorem c156 : chkFn Tryz.prog Tryz.f156 a156 = true := by kernel_rfl

/-- besom/besomref01.both -/
def a157 : AFn := ⟨4, (.seq (.reg [
   ⟨some 8, .alloc 24 [(.int .i64 0), (.int .i64 0)], none⟩,
   ⟨some 9, .mv (.c (.int .i64 0)), none⟩])
 (.seq (.seq (.reg [
   ⟨some 10, .mv (.t 1), none⟩,
   ⟨some 11, .bin .neq (.t 10) (.c (.int .i64 0)), none⟩,
   ⟨some 12, .mv (.t 11), none⟩,
   ⟨some 13, .mv (.t 3), some (12, false)⟩,
   ⟨some 14, .bin .neq (.t 13) (.c (.int .i64 0)), some (12, false)⟩,
   ⟨some 15, .pick (.t 12) (.c (.bool true)) (.t 14), none⟩])
 (.cond (.t 15) (.seq (.reg [
    ⟨some 16, .bld [(.int .i64 0), (.int .i64 0)] [], none⟩,
    ⟨some 17, .mv (.t 1), none⟩,
    ⟨some 18, .mv (.t 3), none⟩,
    ⟨some 19, .mx false (.t 17) (.t 18), none⟩,
    ⟨none, .st 2 (.t 8) (.t 16), none⟩,
    ⟨some 9, .mv (.t 19), none⟩])
  .ret)
 .skip))
 (.seq (.reg [
   ⟨some 20, .mv (.t 0), none⟩,
   ⟨some 21, .mv (.t 2), none⟩,
   ⟨some 22, .bld [(.int .i64 0), (.int .i64 0)] [(0, 1, (.t 20)), (1, 1, (.t 21))], none⟩,
   ⟨none, .st 2 (.t 8) (.t 22), none⟩,
   ⟨some 9, .mv (.c (.int .i64 0)), none⟩])
 .ret))),
  [.cell 8 2 true, .tmp 9]⟩
theorem c157 : chkFn Tryz.prog Tryz.f157 a157 = true := by kernel_rfl

/-- besom/fixed.each$1 -/
def a158 : AFn := ⟨3, (.seq (.reg [
   ⟨some 3, .alloc 24 [(.int .i64 0), (.int .i64 0)], none⟩])
 (.seq (.reg [
   ⟨some 4, .fa (.t 0) 0, none⟩,
   ⟨some 5, .ld 1 false (.t 4), none⟩,
   ⟨some 6, .fa (.t 0) 1, none⟩,
   ⟨some 7, .ld 1 false (.t 6), none⟩,
   ⟨some 8, .fa (.t 1) 0, none⟩,
   ⟨some 9, .ld 1 false (.t 8), none⟩,
   ⟨some 10, .fa (.t 1) 1, none⟩,
   ⟨some 11, .ld 1 false (.t 10), none⟩,
   ⟨some 12, .bsl 22 [.int .i64] 4 [(.int .i64 0), (.int .i64 0), (.int .i64 0), (.int .i64 0)] [(0, 1, (.t 5)), (1, 1, (.t 7)), (2, 1, (.t 9)), (3, 1, (.t 11))], none⟩,
   ⟨some 13, .call (.f 98) [(.t 12)], none⟩])
 (.seq (.drw [
   (⟨some 14, .ld 1 false (.t 2), none⟩, []),
   (⟨some 15, .fa (.t 0) 0, none⟩, []),
   (⟨some 16, .ld 1 false (.t 15), none⟩, [1]),
   (⟨some 17, .fa (.t 1) 0, none⟩, []),
   (⟨some 18, .ld 1 false (.t 17), none⟩, [3]),
   (⟨some 19, .call (.t 14) [(.t 16), (.t 18)], none⟩, [0, 2, 1, 4, 3]),
   (⟨some 20, .ld 1 false (.t 2), none⟩, []),
   (⟨some 21, .fa (.t 0) 1, none⟩, []),
   (⟨some 22, .ld 1 false (.t 21), none⟩, [7]),
   (⟨some 23, .fa (.t 1) 1, none⟩, []),
   (⟨some 24, .ld 1 false (.t 23), none⟩, [9]),
   (⟨some 25, .call (.t 20) [(.t 22), (.t 24)], none⟩, [6, 8, 7, 10, 9, 5, 0, 2, 1, 4, 3]),
   (⟨some 26, .bld [(.int .i64 0), (.int .i64 0)] [(0, 1, (.t 19)), (1, 1, (.t 25))], none⟩, [5, 0, 2, 1, 4, 3, 11, 6, 8, 7, 10, 9]),
   (⟨none, .st 2 (.t 3) (.t 26), none⟩, [12, 5, 0, 2, 1, 4, 3, 11, 6, 8, 7, 10, 9])])
 .ret))),
  [.cell 3 2 true]⟩
theorem c158 : chkFn Tryz.prog Tryz.f158 a158 = true := by kernel_rfl

/-- slices.IndexFunc[besom/contact.scene,besom/contact.body] -/
def a159 : AFn := ⟨2, (.seq (.reg [
   ⟨some 4, .mv (.c (.int .i64 0)), none⟩])
 (.seq (.seq (.reg [
   ⟨some 6, .mv (.t 0), none⟩,
   ⟨some 7, .len (.t 6), none⟩,
   ⟨some 8, .mv (.c (.int .i64 0)), none⟩])
 (.blk 0 (.loop 0 (.seq (.reg [
    ⟨some 9, .bin .lss (.t 8) (.t 7), none⟩])
  (.seq (.cond (.t 9) .skip
  (.exit 0))
  (.seq (.blk 1 (.seq (.reg [
    ⟨some 10, .mv (.t 8), none⟩,
    ⟨some 5, .mv (.t 10), none⟩])
  (.seq (.reg [
    ⟨some 11, .mv (.t 1), none⟩,
    ⟨some 12, .mv (.t 0), none⟩,
    ⟨some 13, .mv (.t 5), none⟩,
    ⟨some 14, .ia (.t 12) (.t 13) 8, none⟩,
    ⟨some 15, .ld 8 true (.t 14), none⟩,
    ⟨some 16, .call (.t 11) [(.t 15)], none⟩])
  (.cond (.t 16) (.seq (.reg [
     ⟨some 17, .mv (.t 5), none⟩,
     ⟨some 4, .mv (.t 17), none⟩])
   .ret)
  .skip))))
  (.reg [
    ⟨some 18, .bin .add (.t 8) (.c (.int .i64 1)), none⟩,
    ⟨some 8, .mv (.t 18), none⟩])))))))
 (.seq (.reg [
   ⟨some 4, .mv (.c (.int .i64 (-1))), none⟩])
 .ret))),
  [.tmp 4]⟩
theorem c159 : chkFn Tryz.prog Tryz.f159 a159 = true := by kernel_rfl

/-- besom/fixed.tried[besom/api.Fix]$1 -/
def a160 : AFn := ⟨2, (.seq (.reg [
   ⟨some 6, .no, none⟩,
   ⟨some 2, .mv (.t 6), none⟩])
 (.seq (.reg [
   ⟨some 8, .mv (.t 2), none⟩,
   ⟨some 9, .tas 219 [(.int .i64 0)] (.t 8), none⟩,
   ⟨some 7, .mv (.t 9), none⟩,
   ⟨some 10, .ext (.t 7) 0, none⟩,
   ⟨some 11, .ext (.t 7) 1, none⟩,
   ⟨some 3, .alloc 219 [(.int .i64 0)], none⟩,
   ⟨none, .st 1 (.t 3) (.t 10), none⟩,
   ⟨some 4, .mv (.t 11), none⟩])
 (.seq (.reg [
   ⟨some 12, .mv (.t 4), none⟩])
 (.cond (.t 12) (.seq (.reg [
    ⟨some 5, .mv (.c (.int .i64 0)), none⟩])
  (.drw [
    (⟨some 13, .mv (.t 5), none⟩, []),
    (⟨some 14, .fa (.t 3) 0, none⟩, []),
    (⟨some 15, .ld 1 false (.t 14), none⟩, [1]),
    (⟨none, .st 1 (.t 0) (.t 13), none⟩, [0]),
    (⟨none, .st 1 (.t 1) (.t 15), none⟩, [2, 1, 3, 0])]))
 (.seq (.reg [
    ⟨some 16, .mv (.t 2), none⟩,
    ⟨some 17, .ifn true (.t 16), none⟩])
  (.cond (.t 17) (.reg [
     ⟨some 18, .mv (.t 2), none⟩,
     ⟨none, .pan (.t 18), none⟩])
  .skip)))))),
  []⟩
theorem c160 : chkFn Tryz.prog Tryz.f160 a160 = true := by kernel_rfl

/-- besom/fixed.ways$1 -/
def a161 : AFn := ⟨2, (.seq (.reg [
   ⟨some 4, .mv (.c (.bool false)), none⟩])
 (.seq (.reg [
   ⟨some 4, .mv (.c (.bool false)), none⟩])
 .ret)),
  [.tmp 4]⟩
theorem c161 : chkFn Tryz.prog Tryz.f161 a161 = true := by kernel_rfl

/-- besom/fixed.ways$2 -/
def a162 : AFn := ⟨2, (.seq (.reg [
   ⟨some 4, .mv (.c (.bool false)), none⟩])
 (.seq (.reg [
   ⟨some 5, .mv (.t 1), none⟩,
   ⟨some 4, .mv (.t 5), none⟩])
 .ret)),
  [.tmp 4]⟩
theorem c162 : chkFn Tryz.prog Tryz.f162 a162 = true := by kernel_rfl

/-- besom/fixed.ways$3 -/
def a163 : AFn := ⟨2, (.seq (.reg [
   ⟨some 4, .mv (.c (.bool false)), none⟩])
 (.seq (.reg [
   ⟨some 5, .mv (.t 1), none⟩,
   ⟨some 6, .not (.t 5), none⟩,
   ⟨some 4, .mv (.t 6), none⟩])
 .ret)),
  [.tmp 4]⟩
theorem c163 : chkFn Tryz.prog Tryz.f163 a163 = true := by kernel_rfl

/-- besom/fixed.ways$4 -/
def a164 : AFn := ⟨2, (.seq (.reg [
   ⟨some 4, .mv (.c (.bool false)), none⟩])
 (.seq (.reg [
   ⟨some 5, .mv (.t 0), none⟩,
   ⟨some 6, .bin .geq (.t 5) (.c (.int .i64 0)), none⟩,
   ⟨some 4, .mv (.t 6), none⟩])
 .ret)),
  [.tmp 4]⟩
theorem c164 : chkFn Tryz.prog Tryz.f164 a164 = true := by kernel_rfl

/-- (besom/fixed.wide).root -/
def a165 : AFn := ⟨1, (.seq (.reg [
   ⟨some 1, .box 167 (.t 0), none⟩,
   ⟨some 2, .mv (.c (.int .u64 0)), none⟩])
 (.seq (.reg [
   ⟨some 3, .mv (.c (.int .u64 0)), none⟩])
 (.seq (.seq (.reg [
   ⟨some 4, .mv (.c (.int .u64 4611686018427387904)), none⟩])
 (.blk 0 (.loop 0 (.seq (.seq (.reg [
    ⟨some 6, .mv (.t 4), none⟩,
    ⟨some 7, .bin .gtr (.t 6) (.c (.int .u64 0)), none⟩])
  (.cond (.t 7) .skip
  (.exit 0)))
  (.seq (.blk 1 (.seq (.reg [
    ⟨some 10, .mv (.t 3), none⟩,
    ⟨some 11, .mv (.t 4), none⟩,
    ⟨some 12, .bin .or (.t 10) (.t 11), none⟩,
    ⟨some 5, .mv (.t 12), none⟩])
  (.seq (.drw [
    (⟨some 13, .mv (.t 5), none⟩, []),
    (⟨some 14, .mv (.t 5), none⟩, []),
    (⟨some 15, .call (.f 102) [(.t 13), (.t 14)], none⟩, [0, 1]),
    (⟨some 16, .ld 2 true (.t 1), none⟩, []),
    (⟨some 17, .call (.f 125) [(.t 15), (.t 16)], none⟩, [2, 0, 1, 3]),
    (⟨some 18, .bin .leq (.t 17) (.c (.int .i64 0)), none⟩, [4, 2, 0, 1, 3])])
  (.cond (.t 18) (.reg [
     ⟨some 19, .mv (.t 5), none⟩,
     ⟨some 3, .mv (.t 19), none⟩])
  .skip))))
  (.reg [
    ⟨some 8, .mv (.t 4), none⟩,
    ⟨some 9, .bin .shr (.t 8) (.c (.int .u64 1)), none⟩,
    ⟨some 4, .mv (.t 9), none⟩]))))))
 (.seq (.reg [
   ⟨some 20, .mv (.t 3), none⟩,
   ⟨some 2, .mv (.t 20), none⟩])
 .ret)))),
  [.tmp 2]⟩
theorem c165 : chkFn Tryz.prog Tryz.f165 a165 = true := by kernel_rfl

/-- (besom/fixed.wide).up -/
def a166 : AFn := ⟨2, (.seq (.reg [
   ⟨some 2, .box 167 (.t 0), none⟩,
   ⟨some 4, .alloc 167 [(.int .u64 0), (.int .u64 0)], none⟩])
 (.seq (.reg [
   ⟨some 5, .fa (.t 2) 0, none⟩,
   ⟨some 6, .ld 1 false (.t 5), none⟩,
   ⟨some 7, .mv (.t 1), none⟩,
   ⟨some 8, .bin .shl (.t 6) (.t 7), none⟩,
   ⟨some 9, .fa (.t 2) 1, none⟩,
   ⟨some 10, .ld 1 false (.t 9), none⟩,
   ⟨some 11, .mv (.t 1), none⟩,
   ⟨some 12, .bin .sub (.c (.int .u64 64)) (.t 11), none⟩,
   ⟨some 13, .bin .shr (.t 10) (.t 12), none⟩,
   ⟨some 14, .bin .or (.t 8) (.t 13), none⟩,
   ⟨some 15, .fa (.t 2) 1, none⟩,
   ⟨some 16, .ld 1 false (.t 15), none⟩,
   ⟨some 17, .mv (.t 1), none⟩,
   ⟨some 18, .bin .shl (.t 16) (.t 17), none⟩,
   ⟨some 19, .bld [(.int .u64 0), (.int .u64 0)] [(0, 1, (.t 14)), (1, 1, (.t 18))], none⟩,
   ⟨none, .st 2 (.t 4) (.t 19), none⟩])
 .ret)),
  [.cell 4 2 true]⟩
theorem c166 : chkFn Tryz.prog Tryz.f166 a166 = true := by kernel_rfl

/-- math/bits.Mul64 -/
def a167 : AFn := ⟨2, (.seq (.reg [
   ⟨some 4, .mv (.c (.int .u64 0)), none⟩,
   ⟨some 5, .mv (.c (.int .u64 0)), none⟩])
 (.seq (.reg [
   ⟨some 14, .mv (.t 0), none⟩,
   ⟨some 15, .bin .and (.t 14) (.c (.int .u64 4294967295)), none⟩,
   ⟨some 6, .mv (.t 15), none⟩])
 (.seq (.reg [
   ⟨some 16, .mv (.t 0), none⟩,
   ⟨some 17, .bin .shr (.t 16) (.c (.int .u64 32)), none⟩,
   ⟨some 7, .mv (.t 17), none⟩])
 (.seq (.reg [
   ⟨some 18, .mv (.t 1), none⟩,
   ⟨some 19, .bin .and (.t 18) (.c (.int .u64 4294967295)), none⟩,
   ⟨some 8, .mv (.t 19), none⟩])
 (.seq (.reg [
   ⟨some 20, .mv (.t 1), none⟩,
   ⟨some 21, .bin .shr (.t 20) (.c (.int .u64 32)), none⟩,
   ⟨some 9, .mv (.t 21), none⟩])
 (.seq (.reg [
   ⟨some 22, .mv (.t 6), none⟩,
   ⟨some 23, .mv (.t 8), none⟩,
   ⟨some 24, .bin .mul (.t 22) (.t 23), none⟩,
   ⟨some 10, .mv (.t 24), none⟩])
 (.seq (.reg [
   ⟨some 25, .mv (.t 7), none⟩,
   ⟨some 26, .mv (.t 8), none⟩,
   ⟨some 27, .bin .mul (.t 25) (.t 26), none⟩,
   ⟨some 28, .mv (.t 10), none⟩,
   ⟨some 29, .bin .shr (.t 28) (.c (.int .u64 32)), none⟩,
   ⟨some 30, .bin .add (.t 27) (.t 29), none⟩,
   ⟨some 11, .mv (.t 30), none⟩])
 (.seq (.reg [
   ⟨some 31, .mv (.t 11), none⟩,
   ⟨some 32, .bin .and (.t 31) (.c (.int .u64 4294967295)), none⟩,
   ⟨some 12, .mv (.t 32), none⟩])
 (.seq (.reg [
   ⟨some 33, .mv (.t 11), none⟩,
   ⟨some 34, .bin .shr (.t 33) (.c (.int .u64 32)), none⟩,
   ⟨some 13, .mv (.t 34), none⟩])
 (.seq (.reg [
   ⟨some 35, .mv (.t 12), none⟩,
   ⟨some 36, .mv (.t 6), none⟩,
   ⟨some 37, .mv (.t 9), none⟩,
   ⟨some 38, .bin .mul (.t 36) (.t 37), none⟩,
   ⟨some 39, .bin .add (.t 35) (.t 38), none⟩,
   ⟨some 12, .mv (.t 39), none⟩])
 (.seq (.reg [
   ⟨some 40, .mv (.t 7), none⟩,
   ⟨some 41, .mv (.t 9), none⟩,
   ⟨some 42, .bin .mul (.t 40) (.t 41), none⟩,
   ⟨some 43, .mv (.t 13), none⟩,
   ⟨some 44, .bin .add (.t 42) (.t 43), none⟩,
   ⟨some 45, .mv (.t 12), none⟩,
   ⟨some 46, .bin .shr (.t 45) (.c (.int .u64 32)), none⟩,
   ⟨some 47, .bin .add (.t 44) (.t 46), none⟩,
   ⟨some 4, .mv (.t 47), none⟩])
 (.seq (.reg [
   ⟨some 48, .mv (.t 0), none⟩,
   ⟨some 49, .mv (.t 1), none⟩,
   ⟨some 50, .bin .mul (.t 48) (.t 49), none⟩,
   ⟨some 5, .mv (.t 50), none⟩])
 .ret)))))))))))),
  [.tmp 4, .tmp 5]⟩
theorem c167 : chkFn Tryz.prog Tryz.f167 a167 = true := by kernel_rfl

/-- besom/ice.placed -/
def a168 : AFn := ⟨1, (.seq (.reg [
   ⟨some 2, .mv (.c (.bool false)), none⟩])
 (.seq (.reg [
   ⟨some 3, .mv (.t 0), none⟩,
   ⟨some 4, .call (.f 202) [(.t 3), (.f 203)], none⟩,
   ⟨some 5, .not (.t 4), none⟩,
   ⟨some 2, .mv (.t 5), none⟩])
 .ret)),
  [.tmp 2]⟩
theorem c168 : chkFn Tryz.prog Tryz.f168 a168 = true := by kernel_rfl

/-- besom/ice.grains -/
def a169 : AFn := ⟨2, (.seq (.reg [
   ⟨some 2, .box 67 (.t 0), none⟩,
   ⟨some 3, .box 24 (.t 1), none⟩,
   ⟨some 4, .mv (.c (.int .i64 0)), none⟩,
   ⟨some 5, .mv (.c (.int .i64 0)), none⟩])
 (.seq (.seq (.reg [
   ⟨some 9, .ld 7 true (.t 2), none⟩,
   ⟨some 10, .ld 2 true (.t 3), none⟩,
   ⟨some 11, .call (.f 204) [(.t 9), (.t 10)], none⟩,
   ⟨some 8, .mv (.t 11), none⟩,
   ⟨some 12, .ext (.t 8) 0, none⟩,
   ⟨some 13, .ext (.t 8) 1, none⟩,
   ⟨some 6, .mv (.t 12), none⟩,
   ⟨some 7, .mv (.t 13), none⟩])
 (.seq (.reg [
   ⟨some 14, .mv (.t 7), none⟩])
 (.cond (.t 14) (.seq (.drw [
    (⟨some 15, .fa (.t 2) 5, none⟩, []),
    (⟨some 16, .ld 1 false (.t 15), none⟩, [0]),
    (⟨some 17, .mv (.t 6), none⟩, []),
    (⟨some 18, .ia (.t 16) (.t 17) 1, none⟩, [1, 0, 2]),
    (⟨some 19, .ld 1 false (.t 18), none⟩, [3, 1, 0, 2]),
    (⟨some 20, .fa (.t 2) 6, none⟩, []),
    (⟨some 21, .ld 1 false (.t 20), none⟩, [5]),
    (⟨some 22, .mv (.t 6), none⟩, []),
    (⟨some 23, .ia (.t 21) (.t 22) 1, none⟩, [6, 5, 7]),
    (⟨some 24, .ld 1 false (.t 23), none⟩, [8, 6, 5, 7]),
    (⟨some 4, .mv (.t 19), none⟩, [4, 3, 1, 0, 2]),
    (⟨some 5, .mv (.t 24), none⟩, [9, 8, 6, 5, 7, 10, 4, 3, 1, 0, 2])])
  .ret)
 .skip)))
 (.seq (.reg [
   ⟨some 4, .mv (.c (.int .i64 0)), none⟩,
   ⟨some 5, .mv (.c (.int .i64 0)), none⟩])
 .ret))),
  [.tmp 4, .tmp 5]⟩
theorem c169 : chkFn Tryz.prog Tryz.f169 a169 = true := by kernel_rfl

/-- besom/ice.Check$1 -/
def a170 : AFn := ⟨1, (.seq (.reg [
   ⟨some 2, .mv (.c (.bool false)), none⟩])
 (.seq (.reg [
   ⟨some 3, .mv (.t 0), none⟩,
   ⟨some 4, .call (.f 171) [(.t 3), (.c (.int .i64 0)), (.c (.int .i64 1000))], none⟩,
   ⟨some 5, .not (.t 4), none⟩,
   ⟨some 2, .mv (.t 5), none⟩])
 .ret)),
  [.tmp 2]⟩
theorem c170 : chkFn Tryz.prog Tryz.f170 a170 = true := by kernel_rfl

/-- besom/ice.within[int] -/
def a171 : AFn := ⟨3, (.seq (.reg [
   ⟨some 6, .mv (.c (.bool false)), none⟩])
 (.seq (.reg [
   ⟨some 7, .mv (.t 1), none⟩,
   ⟨some 8, .mv (.t 0), none⟩,
   ⟨some 9, .bin .leq (.t 7) (.t 8), none⟩,
   ⟨some 10, .mv (.t 9), none⟩,
   ⟨some 11, .mv (.t 0), some (10, true)⟩,
   ⟨some 12, .mv (.t 2), some (10, true)⟩,
   ⟨some 13, .bin .leq (.t 11) (.t 12), some (10, true)⟩,
   ⟨some 14, .pick (.t 10) (.t 13) (.c (.bool false)), none⟩,
   ⟨some 6, .mv (.t 14), none⟩])
 .ret)),
  [.tmp 6]⟩
theorem c171 : chkFn Tryz.prog Tryz.f171 a171 = true := by kernel_rfl

/-- besom/ice.within[besom/api.Fix] -/
def a172 : AFn := ⟨3, (.seq (.reg [
   ⟨some 6, .mv (.c (.bool false)), none⟩])
 (.seq (.reg [
   ⟨some 7, .mv (.t 1), none⟩,
   ⟨some 8, .mv (.t 0), none⟩,
   ⟨some 9, .bin .leq (.t 7) (.t 8), none⟩,
   ⟨some 10, .mv (.t 9), none⟩,
   ⟨some 11, .mv (.t 0), some (10, true)⟩,
   ⟨some 12, .mv (.t 2), some (10, true)⟩,
   ⟨some 13, .bin .leq (.t 11) (.t 12), some (10, true)⟩,
   ⟨some 14, .pick (.t 10) (.t 13) (.c (.bool false)), none⟩,
   ⟨some 6, .mv (.t 14), none⟩])
 .ret)),
  [.tmp 6]⟩
theorem c172 : chkFn Tryz.prog Tryz.f172 a172 = true := by kernel_rfl

/-- slices.ContainsFunc[[]int,int] -/
def a173 : AFn := ⟨2, (.seq (.reg [
   ⟨some 4, .mv (.c (.bool false)), none⟩])
 (.seq (.reg [
   ⟨some 5, .mv (.t 0), none⟩,
   ⟨some 6, .mv (.t 1), none⟩,
   ⟨some 7, .call (.f 205) [(.t 5), (.t 6)], none⟩,
   ⟨some 8, .bin .geq (.t 7) (.c (.int .i64 0)), none⟩,
   ⟨some 4, .mv (.t 8), none⟩])
 .ret)),
  [.tmp 4]⟩
theorem c173 : chkFn Tryz.prog Tryz.f173 a173 = true := by kernel_rfl

/-- besom/glide.CheckBrooms$1 -/
def a174 : AFn := ⟨1, (.seq (.reg [
   ⟨some 1, .box 82 (.t 0), none⟩,
   ⟨some 2, .mv (.c (.bool false)), none⟩])
 (.seq (.reg [
   ⟨some 3, .fa (.t 1) 0, none⟩,
   ⟨some 4, .ld 1 false (.t 3), none⟩,
   ⟨some 5, .fa (.t 1) 1, none⟩,
   ⟨some 6, .ld 1 false (.t 5), none⟩,
   ⟨some 7, .call (.f 120) [(.t 4), (.c (.int .i64 0)), (.t 6)], none⟩,
   ⟨some 8, .not (.t 7), none⟩,
   ⟨some 9, .mv (.t 8), none⟩,
   ⟨some 10, .fa (.t 1) 1, some (9, false)⟩,
   ⟨some 11, .ld 1 false (.t 10), some (9, false)⟩,
   ⟨some 12, .bin .gtr (.t 11) (.c (.int .i64 6000)), some (9, false)⟩,
   ⟨some 13, .pick (.t 9) (.c (.bool true)) (.t 12), none⟩,
   ⟨some 14, .mv (.t 13), none⟩,
   ⟨some 15, .fa (.t 1) 2, some (14, false)⟩,
   ⟨some 16, .ld 1 false (.t 15), some (14, false)⟩,
   ⟨some 17, .call (.f 120) [(.t 16), (.c (.int .i64 0)), (.c (.int .i64 1000))], some (14, false)⟩,
   ⟨some 18, .not (.t 17), some (14, false)⟩,
   ⟨some 19, .pick (.t 14) (.c (.bool true)) (.t 18), none⟩,
   ⟨some 2, .mv (.t 19), none⟩])
 .ret)),
  [.tmp 2]⟩
theorem c174 : chkFn Tryz.prog Tryz.f174 a174 = true := by kernel_rfl

/-- slices.ContainsFunc[[]besom/api.Broom,besom/api.Broom] -/
def a175 : AFn := ⟨2, (.seq (.reg [
   ⟨some 4, .mv (.c (.bool false)), none⟩])
 (.seq (.reg [
   ⟨some 5, .mv (.t 0), none⟩,
   ⟨some 6, .mv (.t 1), none⟩,
   ⟨some 7, .call (.f 206) [(.t 5), (.t 6)], none⟩,
   ⟨some 8, .bin .geq (.t 7) (.c (.int .i64 0)), none⟩,
   ⟨some 4, .mv (.t 8), none⟩])
 .ret)),
  [.tmp 4]⟩
theorem c175 : chkFn Tryz.prog Tryz.f175 a175 = true := by kernel_rfl

/-- besom/contact.must[int] -/
def a176 : AFn := ⟨2, (.seq (.reg [
   ⟨some 4, .mv (.c (.int .i64 0)), none⟩])
 (.seq (.seq (.reg [
   ⟨some 5, .mv (.t 1), none⟩,
   ⟨some 6, .bin .neq (.t 5) (.c (.int .i64 0)), none⟩])
 (.cond (.t 6) (.reg [
    ⟨some 7, .mv (.t 1), none⟩,
    ⟨some 8, .bld [(.int .i64 0)] [(0, 1, (.t 7))], none⟩,
    ⟨some 9, .mki 134 (.t 8), none⟩,
    ⟨none, .pan (.t 9), none⟩])
 .skip))
 (.seq (.reg [
   ⟨some 10, .mv (.t 0), none⟩,
   ⟨some 4, .mv (.t 10), none⟩])
 .ret))),
  [.tmp 4]⟩
theorem c176 : chkFn Tryz.prog Tryz.f176 a176 = true := by kernel_rfl

/-- besom/glide.Strength -/
def a177 : AFn := ⟨2, (.seq (.reg [
   ⟨some 4, .mv (.c (.int .i64 0)), none⟩,
   ⟨some 5, .mv (.c (.int .i64 0)), none⟩])
 (.seq (.seq (.reg [
   ⟨some 6, .mv (.t 0), none⟩,
   ⟨some 7, .call (.f 107) [(.t 6)], none⟩,
   ⟨some 8, .bin .neq (.t 7) (.c (.int .i64 0)), none⟩,
   ⟨some 9, .mv (.t 8), none⟩,
   ⟨some 10, .mv (.t 1), some (9, false)⟩,
   ⟨some 11, .call (.f 120) [(.t 10), (.c (.int .i64 0)), (.c (.int .i64 6000))], some (9, false)⟩,
   ⟨some 12, .not (.t 11), some (9, false)⟩,
   ⟨some 13, .pick (.t 9) (.c (.bool true)) (.t 12), none⟩])
 (.cond (.t 13) (.seq (.reg [
    ⟨some 4, .mv (.c (.int .i64 0)), none⟩,
    ⟨some 5, .mv (.c (.int .i64 2)), none⟩])
  .ret)
 .skip))
 (.seq (.reg [
   ⟨some 14, .mv (.t 0), none⟩,
   ⟨some 15, .mv (.t 1), none⟩,
   ⟨some 16, .call (.f 207) [(.t 14), (.t 15)], none⟩,
   ⟨some 4, .mv (.t 16), none⟩,
   ⟨some 5, .mv (.c (.int .i64 0)), none⟩])
 .ret))),
  [.tmp 4, .tmp 5]⟩
theorem c177 : chkFn Tryz.prog Tryz.f177 a177 = true := by kernel_rfl

/-- besom/contact.must[besom/api.Moving] -/
def a178 : AFn := ⟨2, (.seq (.reg [
   ⟨some 2, .box 26 (.t 0), none⟩,
   ⟨some 4, .alloc 26 [(.int .i64 0), (.int .i64 0), (.int .i64 0), (.int .i64 0), (.int .i64 0)], none⟩])
 (.seq (.seq (.reg [
   ⟨some 5, .mv (.t 1), none⟩,
   ⟨some 6, .bin .neq (.t 5) (.c (.int .i64 0)), none⟩])
 (.cond (.t 6) (.reg [
    ⟨some 7, .mv (.t 1), none⟩,
    ⟨some 8, .bld [(.int .i64 0)] [(0, 1, (.t 7))], none⟩,
    ⟨some 9, .mki 134 (.t 8), none⟩,
    ⟨none, .pan (.t 9), none⟩])
 .skip))
 (.seq (.reg [
   ⟨some 10, .ld 5 true (.t 2), none⟩,
   ⟨none, .st 5 (.t 4) (.t 10), none⟩])
 .ret))),
  [.cell 4 5 true]⟩
theorem c178 : chkFn Tryz.prog Tryz.f178 a178 = true := by kernel_rfl

/-- besom/glide.Tick -/
def a179 : AFn := ⟨4, (.seq (.reg [
   ⟨some 4, .box 67 (.t 0), none⟩,
   ⟨some 5, .box 69 (.t 1), none⟩,
   ⟨some 6, .box 26 (.t 2), none⟩,
   ⟨some 7, .box 3 (.t 3), none⟩,
   ⟨some 8, .alloc 26 [(.int .i64 0), (.int .i64 0), (.int .i64 0), (.int .i64 0), (.int .i64 0)], none⟩,
   ⟨some 9, .mv (.c (.int .i64 0)), none⟩])
 (.seq (.reg [
   ⟨some 11, .ld 7 true (.t 4), none⟩,
   ⟨some 12, .ld 5 true (.t 5), none⟩,
   ⟨some 13, .bld [(.int .i64 0), (.int .i64 0), (.int .i64 0), (.int .i64 0), (.int .i64 0), .nsl, .nsl, (.int .i64 0), (.int .i64 0), (.int .i64 0), (.int .i64 0), (.int .i64 0)] [(0, 7, (.t 11)), (7, 5, (.t 12))], none⟩,
   ⟨some 10, .alloc 260 [(.int .i64 0), (.int .i64 0), (.int .i64 0), (.int .i64 0), (.int .i64 0), .nsl, .nsl, (.int .i64 0), (.int .i64 0), (.int .i64 0), (.int .i64 0), (.int .i64 0)], none⟩,
   ⟨none, .st 12 (.t 10) (.t 13), none⟩])
 (.seq (.seq (.reg [
   ⟨some 14, .ld 12 true (.t 10), none⟩,
   ⟨some 15, .ld 5 true (.t 6), none⟩,
   ⟨some 16, .call (.f 208) [(.t 14), (.t 15), (.c .nsl)], none⟩,
   ⟨some 17, .not (.t 16), none⟩,
   ⟨some 18, .mv (.t 17), none⟩,
   ⟨some 19, .ld 1 false (.t 7), some (18, false)⟩,
   ⟨some 20, .call (.f 120) [(.t 19), (.c (.int .i64 0)), (.c (.int .i64 1000))], some (18, false)⟩,
   ⟨some 21, .not (.t 20), some (18, false)⟩,
   ⟨some 22, .pick (.t 18) (.c (.bool true)) (.t 21), none⟩])
 (.cond (.t 22) (.seq (.reg [
    ⟨some 23, .bld [(.int .i64 0), (.int .i64 0), (.int .i64 0), (.int .i64 0), (.int .i64 0)] [], none⟩,
    ⟨none, .st 5 (.t 8) (.t 23), none⟩,
    ⟨some 9, .mv (.c (.int .i64 2)), none⟩])
  .ret)
 .skip))
 (.seq (.reg [
   ⟨some 24, .mkf 210 [] [(.t 10), (.t 6), (.t 7), (.t 8)], none⟩,
   ⟨some 25, .call (.f 209) [(.t 24)], none⟩,
   ⟨some 9, .mv (.t 25), none⟩])
 (.seq (.reg [
   ⟨some 26, .ld 5 true (.t 8), none⟩,
   ⟨some 27, .mv (.t 9), none⟩,
   ⟨none, .st 5 (.t 8) (.t 26), none⟩,
   ⟨some 9, .mv (.t 27), none⟩])
 .ret))))),
  [.cell 8 5 true, .tmp 9]⟩
theorem c179 : chkFn Tryz.prog Tryz.f179 a179 = true := by kernel_rfl

/-- besom/besomref03.in -/
def a180 : AFn := ⟨3, (.seq (.reg [
   ⟨some 6, .mv (.c (.bool false)), none⟩])
 (.seq (.reg [
   ⟨some 7, .mv (.t 0), none⟩,
   ⟨some 8, .mv (.t 1), none⟩,
   ⟨some 9, .mv (.t 2), none⟩,
   ⟨some 10, .call (.f 87) [(.t 7), (.t 8), (.t 9)], none⟩,
   ⟨some 6, .mv (.t 10), none⟩])
 .ret)),
  [.tmp 6]⟩
theorem c180 : chkFn Tryz.prog Tryz.f180 a180 = true := by kernel_rfl

/-- besom/besomref03.grain -/
def a181 : AFn := ⟨1, (.seq (.reg [
   ⟨some 2, .mv (.c (.bool false)), none⟩])
 (.seq (.seq (.reg [
   ⟨some 3, .mv (.c (.int .i64 0)), none⟩])
 (.blk 0 (.loop 0 (.seq (.seq (.reg [
    ⟨some 4, .mv (.t 3), none⟩,
    ⟨some 5, .mv (.t 0), none⟩,
    ⟨some 6, .len (.t 5), none⟩,
    ⟨some 7, .bin .lss (.t 4) (.t 6), none⟩])
  (.cond (.t 7) .skip
  (.exit 0)))
  (.seq (.blk 1 (.seq (.reg [
    ⟨some 10, .mv (.t 0), none⟩,
    ⟨some 11, .mv (.t 3), none⟩,
    ⟨some 12, .ia (.t 10) (.t 11) 1, none⟩,
    ⟨some 13, .ld 1 false (.t 12), none⟩,
    ⟨some 14, .call (.f 180) [(.t 13), (.c (.int .i64 0)), (.c (.int .i64 1000))], none⟩,
    ⟨some 15, .not (.t 14), none⟩])
  (.cond (.t 15) (.seq (.reg [
     ⟨some 2, .mv (.c (.bool false)), none⟩])
   .ret)
  .skip)))
  (.reg [
    ⟨some 8, .mv (.t 3), none⟩,
    ⟨some 9, .bin .add (.t 8) (.c (.int .i64 1)), none⟩,
    ⟨some 3, .mv (.t 9), none⟩]))))))
 (.seq (.reg [
   ⟨some 2, .mv (.c (.bool true)), none⟩])
 .ret))),
  [.tmp 2]⟩
theorem c181 : chkFn Tryz.prog Tryz.f181 a181 = true := by kernel_rfl

/-- besom/besomref03.Slow -/
def a182 : AFn := ⟨3, (.seq (.reg [
   ⟨some 3, .box 67 (.t 0), none⟩,
   ⟨some 4, .box 69 (.t 1), none⟩,
   ⟨some 5, .box 24 (.t 2), none⟩,
   ⟨some 6, .mv (.c (.int .i64 0)), none⟩,
   ⟨some 7, .mv (.c (.int .i64 0)), none⟩])
 (.seq (.reg [
   ⟨some 11, .ld 7 true (.t 3), none⟩,
   ⟨some 12, .call (.f 111) [(.t 11)], none⟩,
   ⟨some 13, .mv (.t 12), none⟩,
   ⟨some 14, .ld 5 true (.t 4), some (13, true)⟩,
   ⟨some 15, .call (.f 112) [(.t 14)], some (13, true)⟩,
   ⟨some 16, .pick (.t 13) (.t 15) (.c (.bool false)), none⟩,
   ⟨some 8, .mv (.t 16), none⟩])
 (.seq (.seq (.reg [
   ⟨some 17, .mv (.t 8), none⟩,
   ⟨some 18, .not (.t 17), none⟩,
   ⟨some 19, .mv (.t 18), none⟩,
   ⟨some 20, .ld 2 true (.t 5), some (19, false)⟩,
   ⟨some 21, .call (.f 127) [(.t 20)], some (19, false)⟩,
   ⟨some 22, .not (.t 21), some (19, false)⟩,
   ⟨some 23, .pick (.t 19) (.c (.bool true)) (.t 22), none⟩])
 (.cond (.t 23) (.seq (.reg [
    ⟨some 6, .mv (.c (.int .i64 0)), none⟩,
    ⟨some 7, .mv (.c (.int .i64 2)), none⟩])
  .ret)
 .skip))
 (.seq (.reg [
   ⟨some 25, .ld 7 true (.t 3), none⟩,
   ⟨some 26, .ld 2 true (.t 5), none⟩,
   ⟨some 27, .call (.f 212) [(.t 25), (.t 26)], none⟩,
   ⟨some 24, .mv (.t 27), none⟩,
   ⟨some 28, .ext (.t 24) 0, none⟩,
   ⟨some 29, .ext (.t 24) 1, none⟩,
   ⟨some 9, .mv (.t 28), none⟩,
   ⟨some 10, .mv (.t 29), none⟩])
 (.seq (.reg [
   ⟨some 30, .ld 5 true (.t 4), none⟩,
   ⟨some 31, .mv (.t 9), none⟩,
   ⟨some 32, .mv (.t 10), none⟩,
   ⟨some 33, .call (.f 213) [(.t 30), (.t 31), (.t 32)], none⟩,
   ⟨some 6, .mv (.t 33), none⟩,
   ⟨some 7, .mv (.c (.int .i64 0)), none⟩])
 .ret))))),
  [.tmp 6, .tmp 7]⟩
theorem c182 : chkFn Tryz.prog Tryz.f182 a182 = true := by kernel_rfl

/-- besom/besomref03.Bend -/
def a183 : AFn := ⟨3, (.seq (.reg [
   ⟨some 3, .box 67 (.t 0), none⟩,
   ⟨some 4, .box 69 (.t 1), none⟩,
   ⟨some 5, .box 24 (.t 2), none⟩,
   ⟨some 6, .mv (.c (.int .i64 0)), none⟩,
   ⟨some 7, .mv (.c (.int .i64 0)), none⟩])
 (.seq (.reg [
   ⟨some 13, .ld 7 true (.t 3), none⟩,
   ⟨some 14, .call (.f 111) [(.t 13)], none⟩,
   ⟨some 15, .mv (.t 14), none⟩,
   ⟨some 16, .ld 5 true (.t 4), some (15, true)⟩,
   ⟨some 17, .call (.f 112) [(.t 16)], some (15, true)⟩,
   ⟨some 18, .pick (.t 15) (.t 17) (.c (.bool false)), none⟩,
   ⟨some 8, .mv (.t 18), none⟩])
 (.seq (.seq (.reg [
   ⟨some 19, .mv (.t 8), none⟩,
   ⟨some 20, .not (.t 19), none⟩,
   ⟨some 21, .mv (.t 20), none⟩,
   ⟨some 22, .ld 2 true (.t 5), some (21, false)⟩,
   ⟨some 23, .call (.f 127) [(.t 22)], some (21, false)⟩,
   ⟨some 24, .not (.t 23), some (21, false)⟩,
   ⟨some 25, .pick (.t 21) (.c (.bool true)) (.t 24), none⟩])
 (.cond (.t 25) (.seq (.reg [
    ⟨some 6, .mv (.c (.int .i64 0)), none⟩,
    ⟨some 7, .mv (.c (.int .i64 2)), none⟩])
  .ret)
 .skip))
 (.seq (.reg [
   ⟨some 27, .ld 7 true (.t 3), none⟩,
   ⟨some 28, .ld 2 true (.t 5), none⟩,
   ⟨some 29, .call (.f 212) [(.t 27), (.t 28)], none⟩,
   ⟨some 26, .mv (.t 29), none⟩,
   ⟨some 30, .ext (.t 26) 0, none⟩,
   ⟨some 31, .ext (.t 26) 1, none⟩,
   ⟨some 9, .mv (.t 30), none⟩,
   ⟨some 10, .mv (.t 31), none⟩])
 (.seq (.reg [
   ⟨some 33, .fa (.t 4) 3, none⟩,
   ⟨some 34, .ld 1 false (.t 33), none⟩,
   ⟨some 35, .mv (.t 10), none⟩,
   ⟨some 36, .bin .sub (.c (.int .i64 2000)) (.t 35), none⟩,
   ⟨some 37, .bin .mul (.t 34) (.t 36), none⟩,
   ⟨some 38, .call (.f 90) [(.c (.int .i64 65536)), (.t 37), (.c (.int .i64 2000000)), (.c (.int .i64 3))], none⟩,
   ⟨some 32, .mv (.t 38), none⟩,
   ⟨some 39, .ext (.t 32) 0, none⟩,
   ⟨some 40, .ext (.t 32) 1, none⟩,
   ⟨some 11, .mv (.t 39), none⟩,
   ⟨some 12, .mv (.t 40), none⟩])
 (.seq (.reg [
   ⟨some 41, .mv (.t 11), none⟩,
   ⟨some 6, .mv (.t 41), none⟩,
   ⟨some 7, .mv (.c (.int .i64 0)), none⟩])
 .ret)))))),
  [.tmp 6, .tmp 7]⟩
theorem c183 : chkFn Tryz.prog Tryz.f183 a183 = true := by kernel_rfl

/-- besom/besomref01.Length -/
def a184 : AFn := ⟨2, (.seq (.reg [
   ⟨some 2, .box 24 (.t 0), none⟩,
   ⟨some 4, .mv (.c (.int .i64 0)), none⟩,
   ⟨some 5, .mv (.c (.int .i64 0)), none⟩])
 (.seq (.reg [
   ⟨some 8, .ld 2 true (.t 2), none⟩,
   ⟨some 9, .call (.f 128) [(.t 8)], none⟩,
   ⟨some 6, .mv (.t 9), none⟩])
 (.seq (.reg [
   ⟨some 10, .mv (.t 1), none⟩,
   ⟨some 11, .call (.f 151) [(.t 10)], none⟩,
   ⟨some 7, .mv (.t 11), none⟩])
 (.seq (.seq (.reg [
   ⟨some 12, .mv (.t 6), none⟩,
   ⟨some 13, .not (.t 12), none⟩,
   ⟨some 14, .mv (.t 13), none⟩,
   ⟨some 15, .mv (.t 7), some (14, false)⟩,
   ⟨some 16, .not (.t 15), some (14, false)⟩,
   ⟨some 17, .pick (.t 14) (.c (.bool true)) (.t 16), none⟩])
 (.cond (.t 17) (.seq (.reg [
    ⟨some 4, .mv (.c (.int .i64 0)), none⟩,
    ⟨some 5, .mv (.c (.int .i64 2)), none⟩])
  .ret)
 .skip))
 (.seq (.reg [
   ⟨some 18, .ld 2 true (.t 2), none⟩,
   ⟨some 19, .call (.f 133) [(.t 18)], none⟩,
   ⟨some 20, .mv (.t 1), none⟩,
   ⟨some 21, .call (.f 214) [(.t 19), (.t 20)], none⟩,
   ⟨some 22, .ext (.t 21) 0, none⟩,
   ⟨some 23, .ext (.t 21) 1, none⟩,
   ⟨some 24, .call (.f 154) [(.t 22), (.t 23)], none⟩,
   ⟨some 25, .ext (.t 24) 0, none⟩,
   ⟨some 26, .ext (.t 24) 1, none⟩,
   ⟨some 4, .mv (.t 25), none⟩,
   ⟨some 5, .mv (.t 26), none⟩])
 .ret))))),
  [.tmp 4, .tmp 5]⟩
theorem c184 : chkFn Tryz.prog Tryz.f184 a184 = true := by kernel_rfl

/-- besom/besomref01.Left -/
def a185 : AFn := ⟨1, (.seq (.reg [
   ⟨some 1, .box 24 (.t 0), none⟩,
   ⟨some 2, .alloc 24 [(.int .i64 0), (.int .i64 0)], none⟩])
 (.seq (.reg [
   ⟨some 4, .ld 2 true (.t 1), none⟩,
   ⟨some 5, .call (.f 128) [(.t 4)], none⟩,
   ⟨some 3, .mv (.t 5), none⟩])
 (.seq (.seq (.reg [
   ⟨some 6, .mv (.t 3), none⟩,
   ⟨some 7, .not (.t 6), none⟩])
 (.cond (.t 7) (.seq (.reg [
    ⟨some 8, .bld [(.int .i64 0), (.int .i64 0)] [], none⟩,
    ⟨none, .st 2 (.t 2) (.t 8), none⟩])
  .ret)
 .skip))
 (.seq (.reg [
   ⟨some 9, .fa (.t 1) 1, none⟩,
   ⟨some 10, .ld 1 false (.t 9), none⟩,
   ⟨some 11, .neg (.t 10), none⟩,
   ⟨some 12, .fa (.t 1) 0, none⟩,
   ⟨some 13, .ld 1 false (.t 12), none⟩,
   ⟨some 14, .bld [(.int .i64 0), (.int .i64 0)] [(0, 1, (.t 11)), (1, 1, (.t 13))], none⟩,
   ⟨none, .st 2 (.t 2) (.t 14), none⟩])
 .ret)))),
  [.cell 2 2 true]⟩
theorem c185 : chkFn Tryz.prog Tryz.f185 a185 = true := by kernel_rfl

/-- besom/glide.within[besom/api.Fix] -/
def a186 : AFn := ⟨3, (.seq (.reg [
   ⟨some 6, .mv (.c (.bool false)), none⟩])
 (.seq (.reg [
   ⟨some 7, .mv (.t 1), none⟩,
   ⟨some 8, .mv (.t 0), none⟩,
   ⟨some 9, .bin .leq (.t 7) (.t 8), none⟩,
   ⟨some 10, .mv (.t 9), none⟩,
   ⟨some 11, .mv (.t 0), some (10, true)⟩,
   ⟨some 12, .mv (.t 2), some (10, true)⟩,
   ⟨some 13, .bin .leq (.t 11) (.t 12), some (10, true)⟩,
   ⟨some 14, .pick (.t 10) (.t 13) (.c (.bool false)), none⟩,
   ⟨some 6, .mv (.t 14), none⟩])
 .ret)),
  [.tmp 6]⟩
theorem c186 : chkFn Tryz.prog Tryz.f186 a186 = true := by kernel_rfl

/-- besom/fixed.tried[bool]$1 -/
def a187 : AFn := ⟨2, (.seq (.reg [
   ⟨some 6, .no, none⟩,
   ⟨some 2, .mv (.t 6), none⟩])
 (.seq (.reg [
   ⟨some 8, .mv (.t 2), none⟩,
   ⟨some 9, .tas 219 [(.int .i64 0)] (.t 8), none⟩,
   ⟨some 7, .mv (.t 9), none⟩,
   ⟨some 10, .ext (.t 7) 0, none⟩,
   ⟨some 11, .ext (.t 7) 1, none⟩,
   ⟨some 3, .alloc 219 [(.int .i64 0)], none⟩,
   ⟨none, .st 1 (.t 3) (.t 10), none⟩,
   ⟨some 4, .mv (.t 11), none⟩])
 (.seq (.reg [
   ⟨some 12, .mv (.t 4), none⟩])
 (.cond (.t 12) (.seq (.reg [
    ⟨some 5, .mv (.c (.bool false)), none⟩])
  (.drw [
    (⟨some 13, .mv (.t 5), none⟩, []),
    (⟨some 14, .fa (.t 3) 0, none⟩, []),
    (⟨some 15, .ld 1 false (.t 14), none⟩, [1]),
    (⟨none, .st 1 (.t 0) (.t 13), none⟩, [0]),
    (⟨none, .st 1 (.t 1) (.t 15), none⟩, [2, 1, 3, 0])]))
 (.seq (.reg [
    ⟨some 16, .mv (.t 2), none⟩,
    ⟨some 17, .ifn true (.t 16), none⟩])
  (.cond (.t 17) (.reg [
     ⟨some 18, .mv (.t 2), none⟩,
     ⟨none, .pan (.t 18), none⟩])
  .skip)))))),
  []⟩
theorem c187 : chkFn Tryz.prog Tryz.f187 a187 = true := by kernel_rfl

/-- cmp.Or[int] -/
def a188 : AFn := ⟨1, (.seq (.reg [
   ⟨some 2, .mv (.c (.int .i64 0)), none⟩])
 (.seq (.reg [
   ⟨some 3, .mv (.c (.int .i64 0)), none⟩])
 (.seq (.seq (.reg [
   ⟨some 6, .mv (.t 0), none⟩,
   ⟨some 7, .len (.t 6), none⟩,
   ⟨some 8, .mv (.c (.int .i64 0)), none⟩])
 (.blk 0 (.loop 0 (.seq (.reg [
    ⟨some 9, .bin .lss (.t 8) (.t 7), none⟩])
  (.seq (.cond (.t 9) .skip
  (.exit 0))
  (.seq (.blk 1 (.seq (.reg [
    ⟨some 10, .ia (.t 6) (.t 8) 1, none⟩,
    ⟨some 11, .ld 1 false (.t 10), none⟩,
    ⟨some 5, .mv (.t 11), none⟩])
  (.seq (.reg [
    ⟨some 12, .mv (.t 5), none⟩,
    ⟨some 13, .mv (.t 3), none⟩,
    ⟨some 14, .bin .neq (.t 12) (.t 13), none⟩])
  (.cond (.t 14) (.seq (.reg [
     ⟨some 15, .mv (.t 5), none⟩,
     ⟨some 2, .mv (.t 15), none⟩])
   .ret)
  .skip))))
  (.reg [
    ⟨some 16, .bin .add (.t 8) (.c (.int .i64 1)), none⟩,
    ⟨some 8, .mv (.t 16), none⟩])))))))
 (.seq (.reg [
   ⟨some 17, .mv (.t 3), none⟩,
   ⟨some 2, .mv (.t 17), none⟩])
 .ret)))),
  [.tmp 2]⟩
theorem c188 : chkFn Tryz.prog Tryz.f188 a188 = true := by kernel_rfl

/-- cmp.Compare[uint64] -/
def a189 : AFn := ⟨2, (.seq (.reg [
   ⟨some 4, .mv (.c (.int .i64 0)), none⟩])
 (.seq (.reg [
   ⟨some 7, .mv (.t 0), none⟩,
   ⟨some 8, .call (.f 215) [(.t 7)], none⟩,
   ⟨some 5, .mv (.t 8), none⟩])
 (.seq (.reg [
   ⟨some 9, .mv (.t 1), none⟩,
   ⟨some 10, .call (.f 215) [(.t 9)], none⟩,
   ⟨some 6, .mv (.t 10), none⟩])
 (.seq (.seq (.reg [
   ⟨some 11, .mv (.t 5), none⟩])
 (.cond (.t 11) (.seq (.seq (.reg [
    ⟨some 12, .mv (.t 6), none⟩])
  (.cond (.t 12) (.seq (.reg [
     ⟨some 4, .mv (.c (.int .i64 0)), none⟩])
   .ret)
  .skip))
  (.seq (.reg [
    ⟨some 4, .mv (.c (.int .i64 (-1))), none⟩])
  .ret))
 .skip))
 (.seq (.seq (.reg [
   ⟨some 13, .mv (.t 6), none⟩])
 (.cond (.t 13) (.seq (.reg [
    ⟨some 4, .mv (.c (.int .i64 1)), none⟩])
  .ret)
 .skip))
 (.seq (.seq (.reg [
   ⟨some 14, .mv (.t 0), none⟩,
   ⟨some 15, .mv (.t 1), none⟩,
   ⟨some 16, .bin .lss (.t 14) (.t 15), none⟩])
 (.cond (.t 16) (.seq (.reg [
    ⟨some 4, .mv (.c (.int .i64 (-1))), none⟩])
  .ret)
 .skip))
 (.seq (.seq (.reg [
   ⟨some 17, .mv (.t 0), none⟩,
   ⟨some 18, .mv (.t 1), none⟩,
   ⟨some 19, .bin .gtr (.t 17) (.t 18), none⟩])
 (.cond (.t 19) (.seq (.reg [
    ⟨some 4, .mv (.c (.int .i64 1)), none⟩])
  .ret)
 .skip))
 (.seq (.reg [
   ⟨some 4, .mv (.c (.int .i64 0)), none⟩])
 .ret)))))))),
  [.tmp 4]⟩
theorem c189 : chkFn Tryz.prog Tryz.f189 a189 = true := by kernel_rfl

/-- besom/besomref01.plus -/
def a190 : AFn := ⟨2, (.seq (.reg [
   ⟨some 4, .mvn 3 [.int .i64], none⟩])
 (.seq (.reg [
   ⟨some 5, .mvn 3 [.int .i64], none⟩])
 (.seq (.reg [
   ⟨some 6, .mv (.c (.int .i64 0)), none⟩])
 (.seq (.seq (.reg [
   ⟨some 7, .mv (.c (.int .i64 0)), none⟩])
 (.blk 0 (.loop 0 (.seq (.seq (.reg [
    ⟨some 8, .mv (.t 7), none⟩,
    ⟨some 9, .mv (.t 0), none⟩,
    ⟨some 10, .len (.t 9), none⟩,
    ⟨some 11, .bin .lss (.t 8) (.t 10), none⟩,
    ⟨some 12, .mv (.t 11), none⟩,
    ⟨some 13, .mv (.t 7), some (12, false)⟩,
    ⟨some 14, .mv (.t 1), some (12, false)⟩,
    ⟨some 15, .len (.t 14), some (12, false)⟩,
    ⟨some 16, .bin .lss (.t 13) (.t 15), some (12, false)⟩,
    ⟨some 17, .pick (.t 12) (.c (.bool true)) (.t 16), none⟩,
    ⟨some 18, .mv (.t 17), none⟩,
    ⟨some 19, .mv (.t 6), some (18, false)⟩,
    ⟨some 20, .bin .gtr (.t 19) (.c (.int .i64 0)), some (18, false)⟩,
    ⟨some 21, .pick (.t 18) (.c (.bool true)) (.t 20), none⟩])
  (.cond (.t 21) .skip
  (.exit 0)))
  (.seq (.blk 1 (.seq (.seq (.reg [
    ⟨some 24, .mv (.t 7), none⟩,
    ⟨some 25, .mv (.t 0), none⟩,
    ⟨some 26, .len (.t 25), none⟩,
    ⟨some 27, .bin .lss (.t 24) (.t 26), none⟩])
  (.cond (.t 27) (.reg [
     ⟨some 28, .mv (.t 6), none⟩,
     ⟨some 29, .mv (.t 0), none⟩,
     ⟨some 30, .mv (.t 7), none⟩,
     ⟨some 31, .ia (.t 29) (.t 30) 1, none⟩,
     ⟨some 32, .ld 1 false (.t 31), none⟩,
     ⟨some 33, .bin .add (.t 28) (.t 32), none⟩,
     ⟨some 6, .mv (.t 33), none⟩])
  .skip))
  (.seq (.seq (.reg [
    ⟨some 34, .mv (.t 7), none⟩,
    ⟨some 35, .mv (.t 1), none⟩,
    ⟨some 36, .len (.t 35), none⟩,
    ⟨some 37, .bin .lss (.t 34) (.t 36), none⟩])
  (.cond (.t 37) (.reg [
     ⟨some 38, .mv (.t 6), none⟩,
     ⟨some 39, .mv (.t 1), none⟩,
     ⟨some 40, .mv (.t 7), none⟩,
     ⟨some 41, .ia (.t 39) (.t 40) 1, none⟩,
     ⟨some 42, .ld 1 false (.t 41), none⟩,
     ⟨some 43, .bin .add (.t 38) (.t 42), none⟩,
     ⟨some 6, .mv (.t 43), none⟩])
  .skip))
  (.seq (.reg [
    ⟨some 44, .mv (.t 5), none⟩,
    ⟨some 45, .mv (.t 6), none⟩,
    ⟨some 46, .bin .rem (.t 45) (.c (.int .i64 32768)), none⟩,
    ⟨some 47, .bsl 3 [.int .i64] 1 [(.int .i64 0)] [(0, 1, (.t 46))], none⟩,
    ⟨some 48, .app 3 [.int .i64] 8 (.t 44) (.t 47), none⟩,
    ⟨some 5, .mv (.t 48), none⟩])
  (.reg [
    ⟨some 49, .mv (.t 6), none⟩,
    ⟨some 50, .bin .quo (.t 49) (.c (.int .i64 32768)), none⟩,
    ⟨some 6, .mv (.t 50), none⟩])))))
  (.reg [
    ⟨some 22, .mv (.t 7), none⟩,
    ⟨some 23, .bin .add (.t 22) (.c (.int .i64 1)), none⟩,
    ⟨some 7, .mv (.t 23), none⟩]))))))
 (.seq (.reg [
   ⟨some 51, .mv (.t 5), none⟩,
   ⟨some 4, .mv (.t 51), none⟩])
 .ret))))),
  [.tmp 4]⟩
theorem c190 : chkFn Tryz.prog Tryz.f190 a190 = true := by kernel_rfl

/-- besom/besomref01.trim -/
def a191 : AFn := ⟨1, (.seq (.reg [
   ⟨some 2, .mvn 3 [.int .i64], none⟩])
 (.seq (.blk 0 (.loop 0 (.seq (.seq (.reg [
    ⟨some 3, .mv (.t 0), none⟩,
    ⟨some 4, .len (.t 3), none⟩,
    ⟨some 5, .bin .gtr (.t 4) (.c (.int .i64 0)), none⟩,
    ⟨some 6, .mv (.t 5), none⟩,
    ⟨some 7, .mv (.t 0), some (6, true)⟩,
    ⟨some 8, .mv (.t 0), some (6, true)⟩,
    ⟨some 9, .len (.t 8), some (6, true)⟩,
    ⟨some 10, .bin .sub (.t 9) (.c (.int .i64 1)), some (6, true)⟩,
    ⟨some 11, .ia (.t 7) (.t 10) 1, some (6, true)⟩,
    ⟨some 12, .ld 1 false (.t 11), some (6, true)⟩,
    ⟨some 13, .bin .eql (.t 12) (.c (.int .i64 0)), some (6, true)⟩,
    ⟨some 14, .pick (.t 6) (.t 13) (.c (.bool false)), none⟩])
  (.cond (.t 14) .skip
  (.exit 0)))
  (.blk 1 (.reg [
    ⟨some 15, .mv (.t 0), none⟩,
    ⟨some 16, .mv (.t 0), none⟩,
    ⟨some 17, .len (.t 16), none⟩,
    ⟨some 18, .bin .sub (.t 17) (.c (.int .i64 1)), none⟩,
    ⟨some 19, .slc (.t 15) none (some (.t 18)) 1, none⟩,
    ⟨some 0, .mv (.t 19), none⟩])))))
 (.seq (.reg [
   ⟨some 20, .mv (.t 0), none⟩,
   ⟨some 2, .mv (.t 20), none⟩])
 .ret))),
  [.tmp 2]⟩
theorem c191 : chkFn Tryz.prog Tryz.f191 a191 = true := by kernel_rfl

/-- besom/fixed.tried[besom/api.Spot]$1 -/
def a192 : AFn := ⟨2, (.seq (.reg [
   ⟨some 6, .no, none⟩,
   ⟨some 2, .mv (.t 6), none⟩])
 (.seq (.reg [
   ⟨some 8, .mv (.t 2), none⟩,
   ⟨some 9, .tas 219 [(.int .i64 0)] (.t 8), none⟩,
   ⟨some 7, .mv (.t 9), none⟩,
   ⟨some 10, .ext (.t 7) 0, none⟩,
   ⟨some 11, .ext (.t 7) 1, none⟩,
   ⟨some 3, .alloc 219 [(.int .i64 0)], none⟩,
   ⟨none, .st 1 (.t 3) (.t 10), none⟩,
   ⟨some 4, .mv (.t 11), none⟩])
 (.seq (.reg [
   ⟨some 12, .mv (.t 4), none⟩])
 (.cond (.t 12) (.seq (.reg [
    ⟨some 5, .alloc 24 [(.int .i64 0), (.int .i64 0)], none⟩])
  (.drw [
    (⟨some 13, .ld 2 true (.t 5), none⟩, []),
    (⟨some 14, .fa (.t 3) 0, none⟩, []),
    (⟨some 15, .ld 1 false (.t 14), none⟩, [1]),
    (⟨none, .st 2 (.t 0) (.t 13), none⟩, [0]),
    (⟨none, .st 1 (.t 1) (.t 15), none⟩, [2, 1, 3, 0])]))
 (.seq (.reg [
    ⟨some 16, .mv (.t 2), none⟩,
    ⟨some 17, .ifn true (.t 16), none⟩])
  (.cond (.t 17) (.reg [
     ⟨some 18, .mv (.t 2), none⟩,
     ⟨none, .pan (.t 18), none⟩])
  .skip)))))),
  []⟩
theorem c192 : chkFn Tryz.prog Tryz.f192 a192 = true := by kernel_rfl

/-- besom/fixed.below -/
def a193 : AFn := ⟨3, (.seq (.reg [
   ⟨some 4, .box 167 (.t 1), none⟩,
   ⟨some 6, .mv (.c (.bool false)), none⟩])
 (.seq (.reg [
   ⟨some 14, .mv (.t 0), none⟩,
   ⟨some 15, .mv (.t 0), none⟩,
   ⟨some 16, .bin .mul (.t 14) (.t 15), none⟩,
   ⟨some 17, .ld 2 true (.t 4), none⟩,
   ⟨some 18, .call (.f 216) [(.t 16), (.t 17)], none⟩,
   ⟨some 13, .mv (.t 18), none⟩,
   ⟨some 19, .ext (.t 13) 0, none⟩,
   ⟨some 20, .ext (.t 13) 1, none⟩,
   ⟨some 7, .alloc 167 [(.int .u64 0), (.int .u64 0)], none⟩,
   ⟨none, .st 2 (.t 7) (.t 19), none⟩,
   ⟨some 8, .mv (.t 20), none⟩])
 (.seq (.reg [
   ⟨some 21, .mv (.t 2), none⟩,
   ⟨some 22, .mv (.t 2), none⟩,
   ⟨some 23, .call (.f 102) [(.t 21), (.t 22)], none⟩,
   ⟨some 9, .alloc 167 [(.int .u64 0), (.int .u64 0)], none⟩,
   ⟨none, .st 2 (.t 9) (.t 23), none⟩])
 (.seq (.reg [
   ⟨some 24, .fa (.t 9) 0, none⟩,
   ⟨some 25, .ld 1 false (.t 24), none⟩,
   ⟨some 26, .bin .shr (.t 25) (.c (.int .u64 32)), none⟩,
   ⟨some 27, .fa (.t 9) 0, none⟩,
   ⟨some 28, .ld 1 false (.t 27), none⟩,
   ⟨some 29, .bin .shl (.t 28) (.c (.int .u64 32)), none⟩,
   ⟨some 30, .fa (.t 9) 1, none⟩,
   ⟨some 31, .ld 1 false (.t 30), none⟩,
   ⟨some 32, .bin .shr (.t 31) (.c (.int .u64 32)), none⟩,
   ⟨some 33, .bin .or (.t 29) (.t 32), none⟩,
   ⟨some 34, .fa (.t 9) 1, none⟩,
   ⟨some 35, .ld 1 false (.t 34), none⟩,
   ⟨some 36, .bin .shl (.t 35) (.c (.int .u64 32)), none⟩,
   ⟨some 37, .bld [(.int .u64 0), (.int .u64 0), (.int .u64 0)] [(0, 1, (.t 26)), (1, 1, (.t 33)), (2, 1, (.t 36))], none⟩,
   ⟨some 10, .alloc 268 [(.int .u64 0), (.int .u64 0), (.int .u64 0)], none⟩,
   ⟨none, .st 3 (.t 10) (.t 37), none⟩])
 (.seq (.reg [
   ⟨some 38, .fa (.t 7) 0, none⟩,
   ⟨some 39, .ld 1 false (.t 38), none⟩,
   ⟨some 40, .fa (.t 7) 1, none⟩,
   ⟨some 41, .ld 1 false (.t 40), none⟩,
   ⟨some 42, .mv (.t 8), none⟩,
   ⟨some 43, .bld [(.int .u64 0), (.int .u64 0), (.int .u64 0)] [(0, 1, (.t 39)), (1, 1, (.t 41)), (2, 1, (.t 42))], none⟩,
   ⟨some 11, .alloc 268 [(.int .u64 0), (.int .u64 0), (.int .u64 0)], none⟩,
   ⟨none, .st 3 (.t 11) (.t 43), none⟩])
 (.seq (.seq (.reg [
   ⟨some 44, .mv (.c (.int .i64 0)), none⟩])
 (.blk 0 (.loop 0 (.seq (.reg [
    ⟨some 45, .bin .lss (.t 44) (.c (.int .i64 3)), none⟩])
  (.seq (.cond (.t 45) .skip
  (.exit 0))
  (.seq (.blk 1 (.seq (.reg [
    ⟨some 46, .mv (.t 44), none⟩,
    ⟨some 12, .mv (.t 46), none⟩])
  (.seq (.drw [
    (⟨some 47, .mv (.t 12), none⟩, []),
    (⟨some 48, .iaa (.t 11) (.t 47) 3 1, none⟩, [0]),
    (⟨some 49, .ld 1 false (.t 48), none⟩, [1, 0]),
    (⟨some 50, .mv (.t 12), none⟩, []),
    (⟨some 51, .iaa (.t 10) (.t 50) 3 1, none⟩, [3]),
    (⟨some 52, .ld 1 false (.t 51), none⟩, [4, 3]),
    (⟨some 53, .bin .neq (.t 49) (.t 52), none⟩, [2, 1, 0, 5, 4, 3])])
  (.cond (.t 53) (.seq (.drw [
     (⟨some 54, .mv (.t 12), none⟩, []),
     (⟨some 55, .iaa (.t 11) (.t 54) 3 1, none⟩, [0]),
     (⟨some 56, .ld 1 false (.t 55), none⟩, [1, 0]),
     (⟨some 57, .mv (.t 12), none⟩, []),
     (⟨some 58, .iaa (.t 10) (.t 57) 3 1, none⟩, [3]),
     (⟨some 59, .ld 1 false (.t 58), none⟩, [4, 3]),
     (⟨some 60, .bin .lss (.t 56) (.t 59), none⟩, [2, 1, 0, 5, 4, 3]),
     (⟨some 6, .mv (.t 60), none⟩, [6, 2, 1, 0, 5, 4, 3])])
   .ret)
  .skip))))
  (.reg [
    ⟨some 61, .bin .add (.t 44) (.c (.int .i64 1)), none⟩,
    ⟨some 44, .mv (.t 61), none⟩])))))))
 (.seq (.reg [
   ⟨some 6, .mv (.c (.bool true)), none⟩])
 .ret))))))),
  [.tmp 6]⟩
theorem c193 : chkFn Tryz.prog Tryz.f193 a193 = true := by kernel_rfl

/-- (besom/fixed.wide).over -/
def a194 : AFn := ⟨2, (.seq (.reg [
   ⟨some 2, .box 167 (.t 0), none⟩,
   ⟨some 4, .mv (.c (.int .u64 0)), none⟩,
   ⟨some 5, .mv (.c (.int .u64 0)), none⟩,
   ⟨some 6, .mv (.c (.bool false)), none⟩])
 (.seq (.seq (.reg [
   ⟨some 7, .fa (.t 2) 0, none⟩,
   ⟨some 8, .ld 1 false (.t 7), none⟩,
   ⟨some 9, .mv (.t 1), none⟩,
   ⟨some 10, .bin .geq (.t 8) (.t 9), none⟩])
 (.cond (.t 10) (.seq (.reg [
    ⟨some 4, .mv (.c (.int .u64 0)), none⟩,
    ⟨some 5, .mv (.c (.int .u64 0)), none⟩,
    ⟨some 6, .mv (.c (.bool false)), none⟩])
  .ret)
 .skip))
 (.seq (.reg [
   ⟨some 12, .fa (.t 2) 0, none⟩,
   ⟨some 13, .ld 1 false (.t 12), none⟩,
   ⟨some 14, .fa (.t 2) 1, none⟩,
   ⟨some 15, .ld 1 false (.t 14), none⟩,
   ⟨some 16, .mv (.t 1), none⟩,
   ⟨some 17, .call (.f 217) [(.t 13), (.t 15), (.t 16)], none⟩,
   ⟨some 11, .mv (.t 17), none⟩,
   ⟨some 18, .ext (.t 11) 0, none⟩,
   ⟨some 19, .ext (.t 11) 1, none⟩,
   ⟨some 4, .mv (.t 18), none⟩,
   ⟨some 5, .mv (.t 19), none⟩])
 (.seq (.reg [
   ⟨some 20, .mv (.t 4), none⟩,
   ⟨some 21, .mv (.t 5), none⟩,
   ⟨some 4, .mv (.t 20), none⟩,
   ⟨some 5, .mv (.t 21), none⟩,
   ⟨some 6, .mv (.c (.bool true)), none⟩])
 .ret)))),
  [.tmp 4, .tmp 5, .tmp 6]⟩
theorem c194 : chkFn Tryz.prog Tryz.f194 a194 = true := by kernel_rfl

/-- besom/fixed.tried[besom/fixed.rounding]$1 -/
def a197 : AFn := ⟨2, (.seq (.reg [
   ⟨some 6, .no, none⟩,
   ⟨some 2, .mv (.t 6), none⟩])
 (.seq (.reg [
   ⟨some 8, .mv (.t 2), none⟩,
   ⟨some 9, .tas 219 [(.int .i64 0)] (.t 8), none⟩,
   ⟨some 7, .mv (.t 9), none⟩,
   ⟨some 10, .ext (.t 7) 0, none⟩,
   ⟨some 11, .ext (.t 7) 1, none⟩,
   ⟨some 3, .alloc 219 [(.int .i64 0)], none⟩,
   ⟨none, .st 1 (.t 3) (.t 10), none⟩,
   ⟨some 4, .mv (.t 11), none⟩])
 (.seq (.reg [
   ⟨some 12, .mv (.t 4), none⟩])
 (.cond (.t 12) (.seq (.reg [
    ⟨some 5, .mv (.c .nfn), none⟩])
  (.drw [
    (⟨some 13, .mv (.t 5), none⟩, []),
    (⟨some 14, .fa (.t 3) 0, none⟩, []),
    (⟨some 15, .ld 1 false (.t 14), none⟩, [1]),
    (⟨none, .st 1 (.t 0) (.t 13), none⟩, [0]),
    (⟨none, .st 1 (.t 1) (.t 15), none⟩, [2, 1, 3, 0])]))
 (.seq (.reg [
    ⟨some 16, .mv (.t 2), none⟩,
    ⟨some 17, .ifn true (.t 16), none⟩])
  (.cond (.t 17) (.reg [
     ⟨some 18, .mv (.t 2), none⟩,
     ⟨none, .pan (.t 18), none⟩])
  .skip)))))),
  []⟩
theorem c197 : chkFn Tryz.prog Tryz.f197 a197 = true := by kernel_rfl

/-- besom/besomref01.up -/
def a198 : AFn := ⟨2, (.seq (.reg [
   ⟨some 4, .mvn 3 [.int .i64], none⟩])
 (.seq (.reg [
   ⟨some 5, .mv (.t 0), none⟩,
   ⟨some 6, .mv (.t 1), none⟩,
   ⟨some 7, .bin .shl (.c (.int .i64 1)) (.t 6), none⟩,
   ⟨some 8, .call (.f 130) [(.t 7)], none⟩,
   ⟨some 9, .call (.f 134) [(.t 5), (.t 8)], none⟩,
   ⟨some 4, .mv (.t 9), none⟩])
 .ret)),
  [.tmp 4]⟩
theorem c198 : chkFn Tryz.prog Tryz.f198 a198 = true := by kernel_rfl

/-- besom/besomref01.minus -/
def a199 : AFn := ⟨2, (.seq (.reg [
   ⟨some 4, .mvn 3 [.int .i64], none⟩])
 (.seq (.reg [
   ⟨some 5, .mvn 3 [.int .i64], none⟩])
 (.seq (.reg [
   ⟨some 6, .mv (.c (.int .i64 0)), none⟩])
 (.seq (.seq (.reg [
   ⟨some 7, .mv (.c (.int .i64 0)), none⟩])
 (.blk 0 (.loop 0 (.seq (.seq (.reg [
    ⟨some 9, .mv (.t 7), none⟩,
    ⟨some 10, .mv (.t 0), none⟩,
    ⟨some 11, .len (.t 10), none⟩,
    ⟨some 12, .bin .lss (.t 9) (.t 11), none⟩])
  (.cond (.t 12) .skip
  (.exit 0)))
  (.seq (.blk 1 (.seq (.reg [
    ⟨some 15, .mv (.t 0), none⟩,
    ⟨some 16, .mv (.t 7), none⟩,
    ⟨some 17, .ia (.t 15) (.t 16) 1, none⟩,
    ⟨some 18, .ld 1 false (.t 17), none⟩,
    ⟨some 19, .mv (.t 6), none⟩,
    ⟨some 20, .bin .sub (.t 18) (.t 19), none⟩,
    ⟨some 8, .mv (.t 20), none⟩])
  (.seq (.seq (.reg [
    ⟨some 21, .mv (.t 7), none⟩,
    ⟨some 22, .mv (.t 1), none⟩,
    ⟨some 23, .len (.t 22), none⟩,
    ⟨some 24, .bin .lss (.t 21) (.t 23), none⟩])
  (.cond (.t 24) (.reg [
     ⟨some 25, .mv (.t 8), none⟩,
     ⟨some 26, .mv (.t 1), none⟩,
     ⟨some 27, .mv (.t 7), none⟩,
     ⟨some 28, .ia (.t 26) (.t 27) 1, none⟩,
     ⟨some 29, .ld 1 false (.t 28), none⟩,
     ⟨some 30, .bin .sub (.t 25) (.t 29), none⟩,
     ⟨some 8, .mv (.t 30), none⟩])
  .skip))
  (.seq (.reg [
    ⟨some 6, .mv (.c (.int .i64 0)), none⟩])
  (.seq (.seq (.reg [
    ⟨some 31, .mv (.t 8), none⟩,
    ⟨some 32, .bin .lss (.t 31) (.c (.int .i64 0)), none⟩])
  (.cond (.t 32) (.seq (.reg [
     ⟨some 33, .mv (.t 8), none⟩,
     ⟨some 34, .bin .add (.t 33) (.c (.int .i64 32768)), none⟩,
     ⟨some 8, .mv (.t 34), none⟩])
   (.reg [
     ⟨some 6, .mv (.c (.int .i64 1)), none⟩]))
  .skip))
  (.reg [
    ⟨some 35, .mv (.t 5), none⟩,
    ⟨some 36, .mv (.t 8), none⟩,
    ⟨some 37, .bsl 3 [.int .i64] 1 [(.int .i64 0)] [(0, 1, (.t 36))], none⟩,
    ⟨some 38, .app 3 [.int .i64] 8 (.t 35) (.t 37), none⟩,
    ⟨some 5, .mv (.t 38), none⟩]))))))
  (.reg [
    ⟨some 13, .mv (.t 7), none⟩,
    ⟨some 14, .bin .add (.t 13) (.c (.int .i64 1)), none⟩,
    ⟨some 7, .mv (.t 14), none⟩]))))))
 (.seq (.reg [
   ⟨some 39, .mv (.t 5), none⟩,
   ⟨some 40, .call (.f 191) [(.t 39)], none⟩,
   ⟨some 4, .mv (.t 40), none⟩])
 .ret))))),
  [.tmp 4]⟩
theorem c199 : chkFn Tryz.prog Tryz.f199 a199 = true := by kernel_rfl

/-- besom/besomref01.over -/
def a200 : AFn := ⟨2, (.seq (.reg [
   ⟨some 4, .mvn 3 [.int .i64], none⟩,
   ⟨some 5, .mvn 3 [.int .i64], none⟩])
 (.seq (.reg [
   ⟨some 11, .mv (.t 0), none⟩,
   ⟨some 12, .len (.t 11), none⟩,
   ⟨some 13, .msl 3 [.int .i64] 8 (0) (.t 12) (.t 12), none⟩,
   ⟨some 6, .mv (.t 13), none⟩])
 (.seq (.reg [
   ⟨some 7, .mvn 3 [.int .i64], none⟩])
 (.seq (.seq (.reg [
   ⟨some 14, .mv (.t 0), none⟩,
   ⟨some 15, .len (.t 14), none⟩,
   ⟨some 16, .bin .sub (.t 15) (.c (.int .i64 1)), none⟩,
   ⟨some 8, .mv (.t 16), none⟩])
 (.blk 0 (.loop 0 (.seq (.seq (.reg [
    ⟨some 17, .mv (.t 8), none⟩,
    ⟨some 18, .bin .geq (.t 17) (.c (.int .i64 0)), none⟩])
  (.cond (.t 18) .skip
  (.exit 0)))
  (.seq (.blk 1 (.seq (.reg [
    ⟨some 21, .mv (.t 0), none⟩,
    ⟨some 22, .mv (.t 8), none⟩,
    ⟨some 23, .ia (.t 21) (.t 22) 1, none⟩,
    ⟨some 24, .ld 1 false (.t 23), none⟩,
    ⟨some 25, .bsl 3 [.int .i64] 1 [(.int .i64 0)] [(0, 1, (.t 24))], none⟩,
    ⟨some 26, .mv (.t 7), none⟩,
    ⟨some 27, .app 3 [.int .i64] 8 (.t 25) (.t 26), none⟩,
    ⟨some 28, .call (.f 191) [(.t 27)], none⟩,
    ⟨some 7, .mv (.t 28), none⟩])
  (.seq (.reg [
    ⟨some 9, .mv (.c (.int .i64 0)), none⟩])
  (.seq (.seq (.reg [
    ⟨some 10, .mv (.c (.int .i64 16384)), none⟩])
  (.blk 2 (.loop 1 (.seq (.seq (.reg [
     ⟨some 29, .mv (.t 10), none⟩,
     ⟨some 30, .bin .gtr (.t 29) (.c (.int .i64 0)), none⟩,
     ⟨some 31, .mv (.t 30), none⟩,
     ⟨some 32, .mv (.t 7), some (31, true)⟩,
     ⟨some 33, .mv (.t 1), some (31, true)⟩,
     ⟨some 34, .call (.f 132) [(.t 32), (.t 33)], some (31, true)⟩,
     ⟨some 35, .bin .geq (.t 34) (.c (.int .i64 0)), some (31, true)⟩,
     ⟨some 36, .pick (.t 31) (.t 35) (.c (.bool false)), none⟩])
   (.cond (.t 36) .skip
   (.exit 2)))
   (.seq (.blk 3 (.seq (.reg [
     ⟨some 39, .mv (.t 1), none⟩,
     ⟨some 40, .mv (.t 9), none⟩,
     ⟨some 41, .mv (.t 10), none⟩,
     ⟨some 42, .bin .add (.t 40) (.t 41), none⟩,
     ⟨some 43, .call (.f 130) [(.t 42)], none⟩,
     ⟨some 44, .call (.f 134) [(.t 39), (.t 43)], none⟩,
     ⟨some 45, .mv (.t 7), none⟩,
     ⟨some 46, .call (.f 132) [(.t 44), (.t 45)], none⟩,
     ⟨some 47, .bin .leq (.t 46) (.c (.int .i64 0)), none⟩])
   (.cond (.t 47) (.reg [
      ⟨some 48, .mv (.t 9), none⟩,
      ⟨some 49, .mv (.t 10), none⟩,
      ⟨some 50, .bin .add (.t 48) (.t 49), none⟩,
      ⟨some 9, .mv (.t 50), none⟩])
   .skip)))
   (.reg [
     ⟨some 37, .mv (.t 10), none⟩,
     ⟨some 38, .bin .quo (.t 37) (.c (.int .i64 2)), none⟩,
     ⟨some 10, .mv (.t 38), none⟩]))))))
  (.seq (.reg [
    ⟨some 51, .mv (.t 6), none⟩,
    ⟨some 52, .mv (.t 8), none⟩,
    ⟨some 53, .mv (.t 9), none⟩,
    ⟨some 54, .ia (.t 51) (.t 52) 1, none⟩,
    ⟨none, .st 1 (.t 54) (.t 53), none⟩])
  (.reg [
    ⟨some 55, .mv (.t 7), none⟩,
    ⟨some 56, .mv (.t 1), none⟩,
    ⟨some 57, .mv (.t 9), none⟩,
    ⟨some 58, .call (.f 130) [(.t 57)], none⟩,
    ⟨some 59, .call (.f 134) [(.t 56), (.t 58)], none⟩,
    ⟨some 60, .call (.f 199) [(.t 55), (.t 59)], none⟩,
    ⟨some 7, .mv (.t 60), none⟩]))))))
  (.reg [
    ⟨some 19, .mv (.t 8), none⟩,
    ⟨some 20, .bin .sub (.t 19) (.c (.int .i64 1)), none⟩,
    ⟨some 8, .mv (.t 20), none⟩]))))))
 (.seq (.reg [
   ⟨some 61, .mv (.t 6), none⟩,
   ⟨some 62, .call (.f 191) [(.t 61)], none⟩,
   ⟨some 63, .mv (.t 7), none⟩,
   ⟨some 4, .mv (.t 62), none⟩,
   ⟨some 5, .mv (.t 63), none⟩])
 .ret))))),
  [.tmp 4, .tmp 5]⟩
theorem c200 : chkFn Tryz.prog Tryz.f200 a200 = true := by kernel_rfl

/-- besom/besomref01.number -/
def a201 : AFn := ⟨1, (.seq (.reg [
   ⟨some 2, .mv (.c (.int .i64 0)), none⟩,
   ⟨some 3, .mv (.c (.bool false)), none⟩])
 (.seq (.seq (.reg [
   ⟨some 6, .mv (.t 0), none⟩,
   ⟨some 7, .len (.t 6), none⟩,
   ⟨some 8, .bin .gtr (.t 7) (.c (.int .i64 4)), none⟩])
 (.cond (.t 8) (.seq (.reg [
    ⟨some 2, .mv (.c (.int .i64 0)), none⟩,
    ⟨some 3, .mv (.c (.bool false)), none⟩])
  .ret)
 .skip))
 (.seq (.reg [
   ⟨some 4, .mv (.c (.int .i64 0)), none⟩])
 (.seq (.seq (.reg [
   ⟨some 9, .mv (.t 0), none⟩,
   ⟨some 10, .len (.t 9), none⟩,
   ⟨some 11, .bin .sub (.t 10) (.c (.int .i64 1)), none⟩,
   ⟨some 5, .mv (.t 11), none⟩])
 (.blk 0 (.loop 0 (.seq (.seq (.reg [
    ⟨some 12, .mv (.t 5), none⟩,
    ⟨some 13, .bin .geq (.t 12) (.c (.int .i64 0)), none⟩])
  (.cond (.t 13) .skip
  (.exit 0)))
  (.seq (.blk 1 (.reg [
    ⟨some 16, .mv (.t 4), none⟩,
    ⟨some 17, .bin .mul (.c (.int .i64 32768)) (.t 16), none⟩,
    ⟨some 18, .mv (.t 0), none⟩,
    ⟨some 19, .mv (.t 5), none⟩,
    ⟨some 20, .ia (.t 18) (.t 19) 1, none⟩,
    ⟨some 21, .ld 1 false (.t 20), none⟩,
    ⟨some 22, .bin .add (.t 17) (.t 21), none⟩,
    ⟨some 4, .mv (.t 22), none⟩]))
  (.reg [
    ⟨some 14, .mv (.t 5), none⟩,
    ⟨some 15, .bin .sub (.t 14) (.c (.int .i64 1)), none⟩,
    ⟨some 5, .mv (.t 15), none⟩]))))))
 (.seq (.reg [
   ⟨some 23, .mv (.t 4), none⟩,
   ⟨some 2, .mv (.t 23), none⟩,
   ⟨some 3, .mv (.c (.bool true)), none⟩])
 .ret))))),
  [.tmp 2, .tmp 3]⟩
theorem c201 : chkFn Tryz.prog Tryz.f201 a201 = true := by kernel_rfl

/-- slices.ContainsFunc[[]besom/api.Spot,besom/api.Spot] -/
def a202 : AFn := ⟨2, (.seq (.reg [
   ⟨some 4, .mv (.c (.bool false)), none⟩])
 (.seq (.reg [
   ⟨some 5, .mv (.t 0), none⟩,
   ⟨some 6, .mv (.t 1), none⟩,
   ⟨some 7, .call (.f 218) [(.t 5), (.t 6)], none⟩,
   ⟨some 8, .bin .geq (.t 7) (.c (.int .i64 0)), none⟩,
   ⟨some 4, .mv (.t 8), none⟩])
 .ret)),
  [.tmp 4]⟩
theorem c202 : chkFn Tryz.prog Tryz.f202 a202 = true := by kernel_rfl

/-- besom/ice.placed$1 -/
def a203 : AFn := ⟨1, (.seq (.reg [
   ⟨some 1, .box 24 (.t 0), none⟩,
   ⟨some 2, .mv (.c (.bool false)), none⟩])
 (.seq (.reg [
   ⟨some 3, .fa (.t 1) 0, none⟩,
   ⟨some 4, .ld 1 false (.t 3), none⟩,
   ⟨some 5, .call (.f 172) [(.t 4), (.c (.int .i64 (-6553600000))), (.c (.int .i64 6553600000))], none⟩,
   ⟨some 6, .not (.t 5), none⟩,
   ⟨some 7, .mv (.t 6), none⟩,
   ⟨some 8, .fa (.t 1) 1, some (7, false)⟩,
   ⟨some 9, .ld 1 false (.t 8), some (7, false)⟩,
   ⟨some 10, .call (.f 172) [(.t 9), (.c (.int .i64 (-6553600000))), (.c (.int .i64 6553600000))], some (7, false)⟩,
   ⟨some 11, .not (.t 10), some (7, false)⟩,
   ⟨some 12, .pick (.t 7) (.c (.bool true)) (.t 11), none⟩,
   ⟨some 2, .mv (.t 12), none⟩])
 .ret)),
  [.tmp 2]⟩
theorem c203 : chkFn Tryz.prog Tryz.f203 a203 = true := by kernel_rfl

/-- besom/ice.at -/
def a204 : AFn := ⟨2, (.seq (.reg [
   ⟨some 2, .box 67 (.t 0), none⟩,
   ⟨some 3, .box 24 (.t 1), none⟩,
   ⟨some 4, .mv (.c (.int .i64 0)), none⟩,
   ⟨some 5, .mv (.c (.bool false)), none⟩])
 (.seq (.drw [
   (⟨some 8, .fa (.t 3) 0, none⟩, []),
   (⟨some 9, .ld 1 false (.t 8), none⟩, [0]),
   (⟨some 10, .fa (.t 2) 0, none⟩, []),
   (⟨some 11, .fa (.t 10) 0, none⟩, [2]),
   (⟨some 12, .ld 1 false (.t 11), none⟩, [3, 2]),
   (⟨some 13, .bin .sub (.t 9) (.t 12), none⟩, [1, 0, 4, 3, 2]),
   (⟨some 14, .fa (.t 3) 1, none⟩, []),
   (⟨some 15, .ld 1 false (.t 14), none⟩, [6]),
   (⟨some 16, .fa (.t 2) 0, none⟩, []),
   (⟨some 17, .fa (.t 16) 1, none⟩, [8]),
   (⟨some 18, .ld 1 false (.t 17), none⟩, [9, 8]),
   (⟨some 19, .bin .sub (.t 15) (.t 18), none⟩, [7, 6, 10, 9, 8]),
   (⟨some 6, .mv (.t 13), none⟩, [5, 1, 0, 4, 3, 2]),
   (⟨some 7, .mv (.t 19), none⟩, [11, 7, 6, 10, 9, 8, 12, 5, 1, 0, 4, 3, 2])])
 (.seq (.seq (.reg [
   ⟨some 20, .mv (.t 6), none⟩,
   ⟨some 21, .bin .lss (.t 20) (.c (.int .i64 0)), none⟩,
   ⟨some 22, .mv (.t 21), none⟩,
   ⟨some 23, .mv (.t 7), some (22, false)⟩,
   ⟨some 24, .bin .lss (.t 23) (.c (.int .i64 0)), some (22, false)⟩,
   ⟨some 25, .pick (.t 22) (.c (.bool true)) (.t 24), none⟩,
   ⟨some 26, .mv (.t 25), none⟩,
   ⟨some 27, .mv (.t 6), some (26, false)⟩,
   ⟨some 28, .fa (.t 2) 3, some (26, false)⟩,
   ⟨some 29, .ld 1 false (.t 28), some (26, false)⟩,
   ⟨some 30, .fa (.t 2) 2, some (26, false)⟩,
   ⟨some 31, .ld 1 false (.t 30), some (26, false)⟩,
   ⟨some 32, .bin .mul (.t 29) (.t 31), some (26, false)⟩,
   ⟨some 33, .bin .geq (.t 27) (.t 32), some (26, false)⟩,
   ⟨some 34, .pick (.t 26) (.c (.bool true)) (.t 33), none⟩,
   ⟨some 35, .mv (.t 34), none⟩,
   ⟨some 36, .mv (.t 7), some (35, false)⟩,
   ⟨some 37, .fa (.t 2) 4, some (35, false)⟩,
   ⟨some 38, .ld 1 false (.t 37), some (35, false)⟩,
   ⟨some 39, .fa (.t 2) 2, some (35, false)⟩,
   ⟨some 40, .ld 1 false (.t 39), some (35, false)⟩,
   ⟨some 41, .bin .mul (.t 38) (.t 40), some (35, false)⟩,
   ⟨some 42, .bin .geq (.t 36) (.t 41), some (35, false)⟩,
   ⟨some 43, .pick (.t 35) (.c (.bool true)) (.t 42), none⟩])
 (.cond (.t 43) (.seq (.reg [
    ⟨some 4, .mv (.c (.int .i64 0)), none⟩,
    ⟨some 5, .mv (.c (.bool false)), none⟩])
  .ret)
 .skip))
 (.seq (.drw [
   (⟨some 44, .mv (.t 7), none⟩, []),
   (⟨some 45, .fa (.t 2) 2, none⟩, []),
   (⟨some 46, .ld 1 false (.t 45), none⟩, [1]),
   (⟨some 47, .bin .quo (.t 44) (.t 46), none⟩, [0, 2, 1]),
   (⟨some 48, .fa (.t 2) 3, none⟩, []),
   (⟨some 49, .ld 1 false (.t 48), none⟩, [4]),
   (⟨some 50, .bin .mul (.t 47) (.t 49), none⟩, [3, 0, 2, 1, 5, 4]),
   (⟨some 51, .mv (.t 6), none⟩, []),
   (⟨some 52, .fa (.t 2) 2, none⟩, []),
   (⟨some 53, .ld 1 false (.t 52), none⟩, [8]),
   (⟨some 54, .bin .quo (.t 51) (.t 53), none⟩, [7, 9, 8]),
   (⟨some 55, .bin .add (.t 50) (.t 54), none⟩, [6, 3, 0, 2, 1, 5, 4, 10, 7, 9, 8]),
   (⟨some 4, .mv (.t 55), none⟩, [11, 6, 3, 0, 2, 1, 5, 4, 10, 7, 9, 8]),
   (⟨some 5, .mv (.c (.bool true)), none⟩, [12, 11, 6, 3, 0, 2, 1, 5, 4, 10, 7, 9, 8])])
 .ret)))),
  [.tmp 4, .tmp 5]⟩
theorem c204 : chkFn Tryz.prog Tryz.f204 a204 = true := by kernel_rfl

/-- slices.IndexFunc[[]int,int] -/
def a205 : AFn := ⟨2, (.seq (.reg [
   ⟨some 4, .mv (.c (.int .i64 0)), none⟩])
 (.seq (.seq (.reg [
   ⟨some 6, .mv (.t 0), none⟩,
   ⟨some 7, .len (.t 6), none⟩,
   ⟨some 8, .mv (.c (.int .i64 0)), none⟩])
 (.blk 0 (.loop 0 (.seq (.reg [
    ⟨some 9, .bin .lss (.t 8) (.t 7), none⟩])
  (.seq (.cond (.t 9) .skip
  (.exit 0))
  (.seq (.blk 1 (.seq (.reg [
    ⟨some 10, .mv (.t 8), none⟩,
    ⟨some 5, .mv (.t 10), none⟩])
  (.seq (.reg [
    ⟨some 11, .mv (.t 1), none⟩,
    ⟨some 12, .mv (.t 0), none⟩,
    ⟨some 13, .mv (.t 5), none⟩,
    ⟨some 14, .ia (.t 12) (.t 13) 1, none⟩,
    ⟨some 15, .ld 1 false (.t 14), none⟩,
    ⟨some 16, .call (.t 11) [(.t 15)], none⟩])
  (.cond (.t 16) (.seq (.reg [
     ⟨some 17, .mv (.t 5), none⟩,
     ⟨some 4, .mv (.t 17), none⟩])
   .ret)
  .skip))))
  (.reg [
    ⟨some 18, .bin .add (.t 8) (.c (.int .i64 1)), none⟩,
    ⟨some 8, .mv (.t 18), none⟩])))))))
 (.seq (.reg [
   ⟨some 4, .mv (.c (.int .i64 (-1))), none⟩])
 .ret))),
  [.tmp 4]⟩
theorem c205 : chkFn Tryz.prog Tryz.f205 a205 = true := by kernel_rfl

/-- slices.IndexFunc[[]besom/api.Broom,besom/api.Broom] -/
def a206 : AFn := ⟨2, (.seq (.reg [
   ⟨some 4, .mv (.c (.int .i64 0)), none⟩])
 (.seq (.seq (.reg [
   ⟨some 6, .mv (.t 0), none⟩,
   ⟨some 7, .len (.t 6), none⟩,
   ⟨some 8, .mv (.c (.int .i64 0)), none⟩])
 (.blk 0 (.loop 0 (.seq (.reg [
    ⟨some 9, .bin .lss (.t 8) (.t 7), none⟩])
  (.seq (.cond (.t 9) .skip
  (.exit 0))
  (.seq (.blk 1 (.seq (.reg [
    ⟨some 10, .mv (.t 8), none⟩,
    ⟨some 5, .mv (.t 10), none⟩])
  (.seq (.reg [
    ⟨some 11, .mv (.t 1), none⟩,
    ⟨some 12, .mv (.t 0), none⟩,
    ⟨some 13, .mv (.t 5), none⟩,
    ⟨some 14, .ia (.t 12) (.t 13) 3, none⟩,
    ⟨some 15, .ld 3 true (.t 14), none⟩,
    ⟨some 16, .call (.t 11) [(.t 15)], none⟩])
  (.cond (.t 16) (.seq (.reg [
     ⟨some 17, .mv (.t 5), none⟩,
     ⟨some 4, .mv (.t 17), none⟩])
   .ret)
  .skip))))
  (.reg [
    ⟨some 18, .bin .add (.t 8) (.c (.int .i64 1)), none⟩,
    ⟨some 8, .mv (.t 18), none⟩])))))))
 (.seq (.reg [
   ⟨some 4, .mv (.c (.int .i64 (-1))), none⟩])
 .ret))),
  [.tmp 4]⟩
theorem c206 : chkFn Tryz.prog Tryz.f206 a206 = true := by kernel_rfl

/-- besom/glide.strength -/
def a207 : AFn := ⟨2, (.seq (.reg [
   ⟨some 4, .mv (.c (.int .i64 0)), none⟩])
 (.seq (.reg [
   ⟨some 5, .mv (.c (.int .i64 0)), none⟩])
 (.seq (.seq (.reg [
   ⟨some 8, .mv (.t 0), none⟩,
   ⟨some 9, .len (.t 8), none⟩,
   ⟨some 10, .mv (.c (.int .i64 0)), none⟩])
 (.blk 0 (.loop 0 (.seq (.reg [
    ⟨some 11, .bin .lss (.t 10) (.t 9), none⟩])
  (.seq (.cond (.t 11) .skip
  (.exit 0))
  (.seq (.blk 1 (.seq (.reg [
    ⟨some 12, .ia (.t 8) (.t 10) 3, none⟩,
    ⟨some 13, .ld 3 true (.t 12), none⟩,
    ⟨some 7, .alloc 82 [(.int .i64 0), (.int .i64 0), (.int .i64 0)], none⟩,
    ⟨none, .st 3 (.t 7) (.t 13), none⟩])
  (.seq (.reg [
    ⟨some 14, .mv (.t 1), none⟩,
    ⟨some 15, .fa (.t 7) 0, none⟩,
    ⟨some 16, .ld 1 false (.t 15), none⟩,
    ⟨some 17, .fa (.t 7) 1, none⟩,
    ⟨some 18, .ld 1 false (.t 17), none⟩,
    ⟨some 19, .bin .sub (.t 18) (.c (.int .i64 1)), none⟩,
    ⟨some 20, .call (.f 120) [(.t 14), (.t 16), (.t 19)], none⟩])
  (.cond (.t 20) (.reg [
     ⟨some 21, .mv (.t 5), none⟩,
     ⟨some 22, .fa (.t 7) 2, none⟩,
     ⟨some 23, .ld 1 false (.t 22), none⟩,
     ⟨some 24, .mx false (.t 21) (.t 23), none⟩,
     ⟨some 5, .mv (.t 24), none⟩])
  .skip))))
  (.reg [
    ⟨some 25, .bin .add (.t 10) (.c (.int .i64 1)), none⟩,
    ⟨some 10, .mv (.t 25), none⟩])))))))
 (.seq (.reg [
   ⟨some 26, .mv (.t 5), none⟩,
   ⟨some 4, .mv (.t 26), none⟩])
 .ret)))),
  [.tmp 4]⟩
theorem c207 : chkFn Tryz.prog Tryz.f207 a207 = true := by kernel_rfl

/-- (besom/glide.sheet).right -/
def a208 : AFn := ⟨3, (.seq (.reg [
   ⟨some 3, .box 260 (.t 0), none⟩,
   ⟨some 4, .box 26 (.t 1), none⟩,
   ⟨some 6, .mv (.c (.bool false)), none⟩])
 (.seq (.reg [
   ⟨some 7, .fa (.t 3) 0, none⟩,
   ⟨some 8, .ld 7 true (.t 7), none⟩,
   ⟨some 9, .call (.f 105) [(.t 8)], none⟩,
   ⟨some 10, .bin .eql (.t 9) (.c (.int .i64 0)), none⟩,
   ⟨some 11, .mv (.t 10), none⟩,
   ⟨some 12, .fa (.t 3) 7, some (11, true)⟩,
   ⟨some 13, .ld 5 true (.t 12), some (11, true)⟩,
   ⟨some 14, .call (.f 106) [(.t 13)], some (11, true)⟩,
   ⟨some 15, .bin .eql (.t 14) (.c (.int .i64 0)), some (11, true)⟩,
   ⟨some 16, .pick (.t 11) (.t 15) (.c (.bool false)), none⟩,
   ⟨some 17, .mv (.t 16), none⟩,
   ⟨some 18, .ld 5 true (.t 4), some (17, true)⟩,
   ⟨some 19, .call (.f 75) [(.t 18)], some (17, true)⟩,
   ⟨some 20, .bin .eql (.t 19) (.c (.int .i64 0)), some (17, true)⟩,
   ⟨some 21, .pick (.t 17) (.t 20) (.c (.bool false)), none⟩,
   ⟨some 22, .mv (.t 21), none⟩,
   ⟨some 23, .mv (.t 2), some (22, true)⟩,
   ⟨some 24, .call (.f 107) [(.t 23)], some (22, true)⟩,
   ⟨some 25, .bin .eql (.t 24) (.c (.int .i64 0)), some (22, true)⟩,
   ⟨some 26, .pick (.t 22) (.t 25) (.c (.bool false)), none⟩,
   ⟨some 6, .mv (.t 26), none⟩])
 .ret)),
  [.tmp 6]⟩
theorem c208 : chkFn Tryz.prog Tryz.f208 a208 = true := by kernel_rfl

/-- besom/glide.tried -/
def a209 : TFn := ⟨(.reg [
   ⟨some 2, .alloc 29 [(.int .i64 0)], none⟩]), 219, [2], 3,
 (.seq (.reg [
   ⟨some 4, .mv (.t 0), none⟩,
   ⟨some 5, .call (.t 4) [], none⟩])
 (.seq (.reg [
   ⟨none, .st 1 (.t 2) (.c (.int .i64 0)), none⟩])
 .ret)),
  [.cell 2 1 false], 4, 1,
 (.seq (.reg [
   ⟨some 6, .mv (.t 1), none⟩,
   ⟨some 7, .tas 271 [(.int .i64 0)] (.t 6), none⟩,
   ⟨some 5, .mv (.t 7), none⟩,
   ⟨some 8, .ext (.t 5) 0, none⟩,
   ⟨some 9, .ext (.t 5) 1, none⟩,
   ⟨some 2, .alloc 271 [(.int .i64 0)], none⟩,
   ⟨none, .st 1 (.t 2) (.t 8), none⟩,
   ⟨some 3, .mv (.t 9), none⟩])
 (.seq (.reg [
   ⟨some 10, .mv (.t 3), none⟩])
 (.cond (.t 10) (.reg [
    ⟨some 11, .fa (.t 2) 0, none⟩,
    ⟨some 12, .ld 1 false (.t 11), none⟩,
    ⟨none, .st 1 (.t 0) (.t 12), none⟩])
 (.seq (.reg [
    ⟨some 13, .mv (.t 1), none⟩,
    ⟨some 14, .ifn true (.t 13), none⟩])
  (.cond (.t 14) (.reg [
     ⟨some 15, .mv (.t 1), none⟩,
     ⟨none, .pan (.t 15), none⟩])
  .skip)))))⟩
theorem c209 : chkMain Tryz.prog Tryz.f209 a209 = true := by kernel_rfl
theorem d209 : chkDef Tryz.prog Tryz.f219 a209 = true := by kernel_rfl

/-- besom/glide.Tick$1 -/
def a210 : AFn := ⟨4, (.reg [
   ⟨some 4, .ld 12 true (.t 0), none⟩,
   ⟨some 5, .ld 5 true (.t 1), none⟩,
   ⟨some 6, .ld 1 false (.t 2), none⟩,
   ⟨some 7, .call (.f 211) [(.t 4), (.t 5), (.t 6)], none⟩,
   ⟨none, .st 5 (.t 3) (.t 7), none⟩]),
  []⟩
theorem c210 : chkFn Tryz.prog Tryz.f210 a210 = true := by kernel_rfl

/-- (besom/glide.sheet).tick -/
def a211 : AFn := ⟨3, (.seq (.reg [
   ⟨some 3, .box 260 (.t 0), none⟩,
   ⟨some 4, .box 26 (.t 1), none⟩,
   ⟨some 6, .alloc 26 [(.int .i64 0), (.int .i64 0), (.int .i64 0), (.int .i64 0), (.int .i64 0)], none⟩])
 (.seq (.reg [
   ⟨some 13, .fa (.t 3) 0, none⟩,
   ⟨some 14, .ld 7 true (.t 13), none⟩,
   ⟨some 15, .fa (.t 3) 7, none⟩,
   ⟨some 16, .ld 5 true (.t 15), none⟩,
   ⟨some 17, .fa (.t 4) 0, none⟩,
   ⟨some 18, .ld 2 true (.t 17), none⟩,
   ⟨some 19, .call (.f 64) [(.t 14), (.t 16), (.t 18)], none⟩,
   ⟨some 20, .ext (.t 19) 0, none⟩,
   ⟨some 21, .ext (.t 19) 1, none⟩,
   ⟨some 22, .call (.f 220) [(.t 20), (.t 21)], none⟩,
   ⟨some 7, .mv (.t 22), none⟩])
 (.seq (.reg [
   ⟨some 23, .mv (.t 7), none⟩,
   ⟨some 24, .mv (.t 2), none⟩,
   ⟨some 25, .bin .sub (.c (.int .i64 5000)) (.t 24), none⟩,
   ⟨some 26, .call (.f 86) [(.t 23), (.t 25), (.c (.int .i64 5000)), (.c (.int .i64 3))], none⟩,
   ⟨some 27, .ext (.t 26) 0, none⟩,
   ⟨some 28, .ext (.t 26) 1, none⟩,
   ⟨some 29, .call (.f 220) [(.t 27), (.t 28)], none⟩,
   ⟨some 8, .mv (.t 29), none⟩])
 (.seq (.seq (.reg [
   ⟨some 30, .fa (.t 4) 2, none⟩,
   ⟨some 31, .ld 2 true (.t 30), none⟩,
   ⟨some 32, .call (.f 221) [(.t 31), (.c (.int .i64 1))], none⟩,
   ⟨some 33, .ext (.t 32) 0, none⟩,
   ⟨some 34, .ext (.t 32) 1, none⟩,
   ⟨some 35, .call (.f 220) [(.t 33), (.t 34)], none⟩,
   ⟨some 36, .mv (.t 8), none⟩,
   ⟨some 37, .bin .leq (.t 35) (.t 36), none⟩])
 (.cond (.t 37) (.seq (.reg [
    ⟨some 38, .fa (.t 4) 0, none⟩,
    ⟨some 39, .ld 2 true (.t 38), none⟩,
    ⟨some 40, .bld [(.int .i64 0), (.int .i64 0), (.int .i64 0), (.int .i64 0), (.int .i64 0)] [(0, 2, (.t 39))], none⟩,
    ⟨none, .st 5 (.t 6) (.t 40), none⟩])
  .ret)
 .skip))
 (.seq (.reg [
   ⟨some 41, .fa (.t 3) 0, none⟩,
   ⟨some 42, .ld 7 true (.t 41), none⟩,
   ⟨some 43, .fa (.t 3) 7, none⟩,
   ⟨some 44, .ld 5 true (.t 43), none⟩,
   ⟨some 45, .fa (.t 4) 0, none⟩,
   ⟨some 46, .ld 2 true (.t 45), none⟩,
   ⟨some 47, .call (.f 222) [(.t 42), (.t 44), (.t 46)], none⟩,
   ⟨some 48, .ext (.t 47) 0, none⟩,
   ⟨some 49, .ext (.t 47) 1, none⟩,
   ⟨some 50, .call (.f 220) [(.t 48), (.t 49)], none⟩,
   ⟨some 9, .mv (.t 50), none⟩])
 (.seq (.reg [
   ⟨some 51, .mv (.t 9), none⟩,
   ⟨some 52, .mv (.t 2), none⟩,
   ⟨some 53, .bin .sub (.c (.int .i64 2000)) (.t 52), none⟩,
   ⟨some 54, .call (.f 86) [(.t 51), (.t 53), (.c (.int .i64 2000)), (.c (.int .i64 3))], none⟩,
   ⟨some 55, .ext (.t 54) 0, none⟩,
   ⟨some 56, .ext (.t 54) 1, none⟩,
   ⟨some 57, .call (.f 220) [(.t 55), (.t 56)], none⟩,
   ⟨some 9, .mv (.t 57), none⟩])
 (.seq (.reg [
   ⟨some 58, .mv (.t 9), none⟩,
   ⟨some 59, .fa (.t 4) 4, none⟩,
   ⟨some 60, .ld 1 false (.t 59), none⟩,
   ⟨some 61, .call (.f 86) [(.t 58), (.t 60), (.c (.int .i64 1000)), (.c (.int .i64 0))], none⟩,
   ⟨some 62, .ext (.t 61) 0, none⟩,
   ⟨some 63, .ext (.t 61) 1, none⟩,
   ⟨some 64, .call (.f 220) [(.t 62), (.t 63)], none⟩,
   ⟨some 9, .mv (.t 64), none⟩])
 (.seq (.reg [
   ⟨some 65, .fa (.t 4) 2, none⟩,
   ⟨some 66, .ld 2 true (.t 65), none⟩,
   ⟨some 67, .call (.f 82) [(.t 66)], none⟩,
   ⟨some 68, .ext (.t 67) 0, none⟩,
   ⟨some 69, .ext (.t 67) 1, none⟩,
   ⟨some 70, .call (.f 223) [(.t 68), (.t 69)], none⟩,
   ⟨some 10, .alloc 24 [(.int .i64 0), (.int .i64 0)], none⟩,
   ⟨none, .st 2 (.t 10) (.t 70), none⟩])
 (.seq (.reg [
   ⟨some 71, .ld 2 true (.t 10), none⟩,
   ⟨some 72, .mv (.t 8), none⟩,
   ⟨some 73, .call (.f 85) [(.t 71), (.t 72), (.c (.int .i64 0))], none⟩,
   ⟨some 74, .ext (.t 73) 0, none⟩,
   ⟨some 75, .ext (.t 73) 1, none⟩,
   ⟨some 76, .call (.f 223) [(.t 74), (.t 75)], none⟩,
   ⟨some 11, .alloc 24 [(.int .i64 0), (.int .i64 0)], none⟩,
   ⟨none, .st 2 (.t 11) (.t 76), none⟩])
 (.seq (.reg [
   ⟨some 77, .ld 2 true (.t 10), none⟩,
   ⟨some 78, .call (.f 224) [(.t 77)], none⟩,
   ⟨some 79, .mv (.t 8), none⟩,
   ⟨some 80, .mv (.t 9), none⟩,
   ⟨some 81, .call (.f 225) [(.t 79), (.t 80), (.c (.int .i64 0))], none⟩,
   ⟨some 82, .ext (.t 81) 0, none⟩,
   ⟨some 83, .ext (.t 81) 1, none⟩,
   ⟨some 84, .call (.f 220) [(.t 82), (.t 83)], none⟩,
   ⟨some 85, .call (.f 85) [(.t 78), (.t 84), (.c (.int .i64 0))], none⟩,
   ⟨some 86, .ext (.t 85) 0, none⟩,
   ⟨some 87, .ext (.t 85) 1, none⟩,
   ⟨some 88, .call (.f 223) [(.t 86), (.t 87)], none⟩,
   ⟨some 12, .alloc 24 [(.int .i64 0), (.int .i64 0)], none⟩,
   ⟨none, .st 2 (.t 12) (.t 88), none⟩])
 (.seq (.drw [
   (⟨some 89, .fa (.t 4) 2, none⟩, []),
   (⟨some 90, .ld 2 true (.t 89), none⟩, [0]),
   (⟨some 91, .ld 2 true (.t 11), none⟩, []),
   (⟨some 92, .call (.f 76) [(.t 90), (.t 91)], none⟩, [1, 0, 2]),
   (⟨some 93, .ext (.t 92) 0, none⟩, [3, 1, 0, 2]),
   (⟨some 94, .ext (.t 92) 1, none⟩, [3, 1, 0, 2]),
   (⟨some 95, .call (.f 223) [(.t 93), (.t 94)], none⟩, [4, 3, 1, 0, 2, 5]),
   (⟨some 96, .ld 2 true (.t 12), none⟩, []),
   (⟨some 97, .call (.f 57) [(.t 95), (.t 96)], none⟩, [6, 4, 3, 1, 0, 2, 5, 7]),
   (⟨some 98, .ext (.t 97) 0, none⟩, [8, 6, 4, 3, 1, 0, 2, 5, 7]),
   (⟨some 99, .ext (.t 97) 1, none⟩, [8, 6, 4, 3, 1, 0, 2, 5, 7]),
   (⟨some 100, .call (.f 223) [(.t 98), (.t 99)], none⟩, [9, 8, 6, 4, 3, 1, 0, 2, 5, 7, 10]),
   (⟨some 101, .fa (.t 4) 2, none⟩, [0, 1, 2, 3, 4, 5, 6, 7, 8, 9, 10, 11]),
   (⟨none, .st 2 (.t 101) (.t 100), none⟩, [12, 0, 1, 2, 3, 4, 5, 6, 7, 8, 9, 10, 11])])
 (.seq (.reg [
   ⟨some 102, .fa (.t 4) 0, none⟩,
   ⟨some 103, .ld 2 true (.t 102), none⟩,
   ⟨some 104, .fa (.t 4) 2, none⟩,
   ⟨some 105, .ld 2 true (.t 104), none⟩,
   ⟨some 106, .call (.f 57) [(.t 103), (.t 105)], none⟩,
   ⟨some 107, .ext (.t 106) 0, none⟩,
   ⟨some 108, .ext (.t 106) 1, none⟩,
   ⟨some 109, .call (.f 223) [(.t 107), (.t 108)], none⟩,
   ⟨some 110, .fa (.t 4) 0, none⟩,
   ⟨none, .st 2 (.t 110) (.t 109), none⟩])
 (.seq (.seq (.reg [
   ⟨some 111, .ld 5 true (.t 4), none⟩,
   ⟨some 112, .call (.f 75) [(.t 111)], none⟩,
   ⟨some 113, .bin .neq (.t 112) (.c (.int .i64 0)), none⟩])
 (.cond (.t 113) (.reg [
    ⟨some 114, .bld [(.int .i64 0)] [(0, 1, (.c (.int .i64 4)))], none⟩,
    ⟨some 115, .mki 271 (.t 114), none⟩,
    ⟨none, .pan (.t 115), none⟩])
 .skip))
 (.seq (.reg [
   ⟨some 116, .ld 5 true (.t 4), none⟩,
   ⟨none, .st 5 (.t 6) (.t 116), none⟩])
 .ret)))))))))))))),
  [.cell 6 5 true]⟩
theorem c211 : chkFn Tryz.prog Tryz.f211 a211 = true := by kernel_rfl

/-- besom/besomref03.height -/
def a212 : AFn := ⟨2, (.seq (.reg [
   ⟨some 2, .box 67 (.t 0), none⟩,
   ⟨some 3, .box 24 (.t 1), none⟩,
   ⟨some 4, .mv (.c (.int .i64 0)), none⟩,
   ⟨some 5, .mv (.c (.int .i64 0)), none⟩])
 (.seq (.reg [
   ⟨some 7, .ld 7 true (.t 2), none⟩,
   ⟨some 8, .ld 2 true (.t 3), none⟩,
   ⟨some 9, .call (.f 226) [(.t 7), (.t 8)], none⟩,
   ⟨some 6, .mv (.t 9), none⟩])
 (.seq (.seq (.reg [
   ⟨some 10, .mv (.t 6), none⟩,
   ⟨some 11, .bin .lss (.t 10) (.c (.int .i64 0)), none⟩])
 (.cond (.t 11) (.seq (.reg [
    ⟨some 4, .mv (.c (.int .i64 0)), none⟩,
    ⟨some 5, .mv (.c (.int .i64 0)), none⟩])
  .ret)
 .skip))
 (.seq (.drw [
   (⟨some 12, .fa (.t 2) 5, none⟩, []),
   (⟨some 13, .ld 1 false (.t 12), none⟩, [0]),
   (⟨some 14, .mv (.t 6), none⟩, []),
   (⟨some 15, .ia (.t 13) (.t 14) 1, none⟩, [1, 0, 2]),
   (⟨some 16, .ld 1 false (.t 15), none⟩, [3, 1, 0, 2]),
   (⟨some 17, .fa (.t 2) 6, none⟩, []),
   (⟨some 18, .ld 1 false (.t 17), none⟩, [5]),
   (⟨some 19, .mv (.t 6), none⟩, []),
   (⟨some 20, .ia (.t 18) (.t 19) 1, none⟩, [6, 5, 7]),
   (⟨some 21, .ld 1 false (.t 20), none⟩, [8, 6, 5, 7]),
   (⟨some 4, .mv (.t 16), none⟩, [4, 3, 1, 0, 2]),
   (⟨some 5, .mv (.t 21), none⟩, [9, 8, 6, 5, 7, 10, 4, 3, 1, 0, 2])])
 .ret)))),
  [.tmp 4, .tmp 5]⟩
theorem c212 : chkFn Tryz.prog Tryz.f212 a212 = true := by kernel_rfl

/-- besom/besomref03.brake -/
def a213 : AFn := ⟨3, (.seq (.reg [
   ⟨some 3, .box 69 (.t 0), none⟩,
   ⟨some 6, .mv (.c (.int .i64 0)), none⟩])
 (.seq (.reg [
   ⟨some 12, .fa (.t 3) 1, none⟩,
   ⟨some 13, .ld 1 false (.t 12), none⟩,
   ⟨some 14, .fa (.t 3) 0, none⟩,
   ⟨some 15, .ld 1 false (.t 14), none⟩,
   ⟨some 16, .bin .sub (.t 13) (.t 15), none⟩,
   ⟨some 17, .mv (.t 1), none⟩,
   ⟨some 18, .call (.f 90) [(.t 16), (.t 17), (.c (.int .i64 1000)), (.c (.int .i64 3))], none⟩,
   ⟨some 11, .mv (.t 18), none⟩,
   ⟨some 19, .ext (.t 11) 0, none⟩,
   ⟨some 20, .ext (.t 11) 1, none⟩,
   ⟨some 7, .mv (.t 19), none⟩,
   ⟨some 8, .mv (.t 20), none⟩])
 (.seq (.reg [
   ⟨some 22, .fa (.t 3) 0, none⟩,
   ⟨some 23, .ld 1 false (.t 22), none⟩,
   ⟨some 24, .mv (.t 7), none⟩,
   ⟨some 25, .bin .add (.t 23) (.t 24), none⟩,
   ⟨some 26, .fa (.t 3) 2, none⟩,
   ⟨some 27, .ld 1 false (.t 26), none⟩,
   ⟨some 28, .mv (.t 2), none⟩,
   ⟨some 29, .bin .mul (.t 27) (.t 28), none⟩,
   ⟨some 30, .bin .sub (.c (.int .i64 1000000)) (.t 29), none⟩,
   ⟨some 31, .call (.f 90) [(.t 25), (.t 30), (.c (.int .i64 1000000)), (.c (.int .i64 3))], none⟩,
   ⟨some 21, .mv (.t 31), none⟩,
   ⟨some 32, .ext (.t 21) 0, none⟩,
   ⟨some 33, .ext (.t 21) 1, none⟩,
   ⟨some 9, .mv (.t 32), none⟩,
   ⟨some 10, .mv (.t 33), none⟩])
 (.seq (.reg [
   ⟨some 34, .mv (.t 9), none⟩,
   ⟨some 6, .mv (.t 34), none⟩])
 .ret)))),
  [.tmp 6]⟩
theorem c213 : chkFn Tryz.prog Tryz.f213 a213 = true := by kernel_rfl

/-- besom/besomref01.rooted -/
def a214 : AFn := ⟨2, (.seq (.reg [
   ⟨some 4, .mv (.c (.int .i64 0)), none⟩,
   ⟨some 5, .mv (.c (.bool false)), none⟩])
 (.seq (.reg [
   ⟨some 11, .mv (.t 0), none⟩,
   ⟨some 12, .call (.f 227) [(.t 11)], none⟩,
   ⟨some 10, .mv (.t 12), none⟩,
   ⟨some 13, .ext (.t 10) 0, none⟩,
   ⟨some 14, .ext (.t 10) 1, none⟩,
   ⟨some 6, .mv (.t 13), none⟩,
   ⟨some 7, .mv (.t 14), none⟩])
 (.seq (.reg [
   ⟨some 15, .mv (.t 1), none⟩,
   ⟨some 16, .bin .eql (.t 15) (.c (.int .i64 2)), none⟩,
   ⟨some 17, .mv (.t 16), none⟩,
   ⟨some 18, .mv (.t 7), some (17, true)⟩,
   ⟨some 19, .not (.t 18), some (17, true)⟩,
   ⟨some 20, .pick (.t 17) (.t 19) (.c (.bool false)), none⟩,
   ⟨some 8, .mv (.t 20), none⟩])
 (.seq (.seq (.reg [
   ⟨some 21, .mv (.t 1), none⟩,
   ⟨some 22, .bin .eql (.t 21) (.c (.int .i64 3)), none⟩])
 (.cond (.t 22) (.seq (.reg [
    ⟨some 23, .mv (.t 6), none⟩,
    ⟨some 24, .bin .mul (.c (.int .i64 2)) (.t 23), none⟩,
    ⟨some 25, .bin .add (.t 24) (.c (.int .i64 1)), none⟩,
    ⟨some 26, .call (.f 130) [(.t 25)], none⟩,
    ⟨some 9, .mv (.t 26), none⟩])
  (.reg [
    ⟨some 27, .mv (.t 0), none⟩,
    ⟨some 28, .call (.f 198) [(.t 27), (.c (.int .i64 2))], none⟩,
    ⟨some 29, .mv (.t 9), none⟩,
    ⟨some 30, .mv (.t 9), none⟩,
    ⟨some 31, .call (.f 134) [(.t 29), (.t 30)], none⟩,
    ⟨some 32, .call (.f 132) [(.t 28), (.t 31)], none⟩,
    ⟨some 33, .bin .geq (.t 32) (.c (.int .i64 0)), none⟩,
    ⟨some 8, .mv (.t 33), none⟩]))
 .skip))
 (.seq (.seq (.reg [
   ⟨some 34, .mv (.t 8), none⟩])
 (.cond (.t 34) (.reg [
    ⟨some 35, .mv (.t 6), none⟩,
    ⟨some 36, .bin .add (.t 35) (.c (.int .i64 1)), none⟩,
    ⟨some 6, .mv (.t 36), none⟩])
 .skip))
 (.seq (.reg [
   ⟨some 37, .mv (.t 6), none⟩,
   ⟨some 4, .mv (.t 37), none⟩,
   ⟨some 5, .mv (.c (.bool true)), none⟩])
 .ret)))))),
  [.tmp 4, .tmp 5]⟩
theorem c214 : chkFn Tryz.prog Tryz.f214 a214 = true := by kernel_rfl

/-- cmp.isNaN[uint64] -/
def a215 : AFn := ⟨1, (.seq (.reg [
   ⟨some 2, .mv (.c (.bool false)), none⟩])
 (.seq (.reg [
   ⟨some 3, .mv (.t 0), none⟩,
   ⟨some 4, .mv (.t 0), none⟩,
   ⟨some 5, .bin .neq (.t 3) (.t 4), none⟩,
   ⟨some 2, .mv (.t 5), none⟩])
 .ret)),
  [.tmp 2]⟩
theorem c215 : chkFn Tryz.prog Tryz.f215 a215 = true := by kernel_rfl

/-- besom/fixed.bits3 -/
def a216 : AFn := ⟨2, (.seq (.reg [
   ⟨some 3, .box 167 (.t 1), none⟩,
   ⟨some 4, .alloc 167 [(.int .u64 0), (.int .u64 0)], none⟩,
   ⟨some 5, .mv (.c (.int .u64 0)), none⟩])
 (.seq (.drw [
   (⟨some 8, .mv (.t 0), none⟩, []),
   (⟨some 9, .fa (.t 3) 1, none⟩, []),
   (⟨some 10, .ld 1 false (.t 9), none⟩, [1]),
   (⟨some 11, .call (.f 102) [(.t 8), (.t 10)], none⟩, [0, 2, 1]),
   (⟨some 12, .mv (.t 0), none⟩, []),
   (⟨some 13, .fa (.t 3) 0, none⟩, []),
   (⟨some 14, .ld 1 false (.t 13), none⟩, [5]),
   (⟨some 15, .call (.f 102) [(.t 12), (.t 14)], none⟩, [4, 6, 5, 3, 0, 2, 1]),
   (⟨some 6, .alloc 167 [(.int .u64 0), (.int .u64 0)], none⟩, []),
   (⟨some 7, .alloc 167 [(.int .u64 0), (.int .u64 0)], none⟩, []),
   (⟨none, .st 2 (.t 6) (.t 11), none⟩, [8, 3, 0, 2, 1, 7, 4, 6, 5, 9]),
   (⟨none, .st 2 (.t 7) (.t 15), none⟩, [9, 7, 4, 6, 5, 3, 0, 2, 1, 10, 8])])
 (.seq (.drw [
   (⟨some 16, .ld 2 true (.t 7), none⟩, []),
   (⟨some 17, .fa (.t 6) 0, none⟩, []),
   (⟨some 18, .ld 1 false (.t 17), none⟩, [1]),
   (⟨some 19, .bld [(.int .u64 0), (.int .u64 0)] [(1, 1, (.t 18))], none⟩, [2, 1]),
   (⟨some 20, .call (.f 142) [(.t 16), (.t 19)], none⟩, [0, 3, 2, 1]),
   (⟨some 21, .fa (.t 6) 1, none⟩, []),
   (⟨some 22, .ld 1 false (.t 21), none⟩, [5]),
   (⟨none, .st 2 (.t 4) (.t 20), none⟩, [4, 0, 3, 2, 1]),
   (⟨some 5, .mv (.t 22), none⟩, [6, 5, 7, 4, 0, 3, 2, 1])])
 .ret))),
  [.cell 4 2 true, .tmp 5]⟩
theorem c216 : chkFn Tryz.prog Tryz.f216 a216 = true := by kernel_rfl

/-- math/bits.Div64 -/
def a217 : AFn := ⟨3, (.seq (.reg [
   ⟨some 6, .mv (.c (.int .u64 0)), none⟩,
   ⟨some 7, .mv (.c (.int .u64 0)), none⟩])
 (.seq (.seq (.reg [
   ⟨some 19, .mv (.t 2), none⟩,
   ⟨some 20, .bin .eql (.t 19) (.c (.int .u64 0)), none⟩])
 (.cond (.t 20) (.reg [
    ⟨some 21, .no, none⟩,
    ⟨none, .pan (.t 21), none⟩])
 .skip))
 (.seq (.seq (.reg [
   ⟨some 22, .mv (.t 2), none⟩,
   ⟨some 23, .mv (.t 0), none⟩,
   ⟨some 24, .bin .leq (.t 22) (.t 23), none⟩])
 (.cond (.t 24) (.reg [
    ⟨some 25, .no, none⟩,
    ⟨none, .pan (.t 25), none⟩])
 .skip))
 (.seq (.seq (.reg [
   ⟨some 26, .mv (.t 0), none⟩,
   ⟨some 27, .bin .eql (.t 26) (.c (.int .u64 0)), none⟩])
 (.cond (.t 27) (.seq (.drw [
    (⟨some 28, .mv (.t 1), none⟩, []),
    (⟨some 29, .mv (.t 2), none⟩, []),
    (⟨some 30, .bin .quo (.t 28) (.t 29), none⟩, [0, 1]),
    (⟨some 31, .mv (.t 1), none⟩, []),
    (⟨some 32, .mv (.t 2), none⟩, []),
    (⟨some 33, .bin .rem (.t 31) (.t 32), none⟩, [3, 4]),
    (⟨some 6, .mv (.t 30), none⟩, [2, 0, 1]),
    (⟨some 7, .mv (.t 33), none⟩, [5, 3, 4, 6, 2, 0, 1])])
  .ret)
 .skip))
 (.seq (.reg [
   ⟨some 34, .mv (.t 2), none⟩,
   ⟨some 35, .call (.f 228) [(.t 34)], none⟩,
   ⟨some 36, .cv .u64 (.t 35), none⟩,
   ⟨some 8, .mv (.t 36), none⟩])
 (.seq (.reg [
   ⟨some 37, .mv (.t 2), none⟩,
   ⟨some 38, .mv (.t 8), none⟩,
   ⟨some 39, .bin .shl (.t 37) (.t 38), none⟩,
   ⟨some 2, .mv (.t 39), none⟩])
 (.seq (.reg [
   ⟨some 40, .mv (.t 2), none⟩,
   ⟨some 41, .bin .shr (.t 40) (.c (.int .u64 32)), none⟩,
   ⟨some 9, .mv (.t 41), none⟩])
 (.seq (.reg [
   ⟨some 42, .mv (.t 2), none⟩,
   ⟨some 43, .bin .and (.t 42) (.c (.int .u64 4294967295)), none⟩,
   ⟨some 10, .mv (.t 43), none⟩])
 (.seq (.reg [
   ⟨some 44, .mv (.t 0), none⟩,
   ⟨some 45, .mv (.t 8), none⟩,
   ⟨some 46, .bin .shl (.t 44) (.t 45), none⟩,
   ⟨some 47, .mv (.t 1), none⟩,
   ⟨some 48, .mv (.t 8), none⟩,
   ⟨some 49, .bin .sub (.c (.int .u64 64)) (.t 48), none⟩,
   ⟨some 50, .bin .shr (.t 47) (.t 49), none⟩,
   ⟨some 51, .bin .or (.t 46) (.t 50), none⟩,
   ⟨some 11, .mv (.t 51), none⟩])
 (.seq (.reg [
   ⟨some 52, .mv (.t 1), none⟩,
   ⟨some 53, .mv (.t 8), none⟩,
   ⟨some 54, .bin .shl (.t 52) (.t 53), none⟩,
   ⟨some 12, .mv (.t 54), none⟩])
 (.seq (.reg [
   ⟨some 55, .mv (.t 12), none⟩,
   ⟨some 56, .bin .shr (.t 55) (.c (.int .u64 32)), none⟩,
   ⟨some 13, .mv (.t 56), none⟩])
 (.seq (.reg [
   ⟨some 57, .mv (.t 12), none⟩,
   ⟨some 58, .bin .and (.t 57) (.c (.int .u64 4294967295)), none⟩,
   ⟨some 14, .mv (.t 58), none⟩])
 (.seq (.reg [
   ⟨some 59, .mv (.t 11), none⟩,
   ⟨some 60, .mv (.t 9), none⟩,
   ⟨some 61, .bin .quo (.t 59) (.t 60), none⟩,
   ⟨some 15, .mv (.t 61), none⟩])
 (.seq (.reg [
   ⟨some 62, .mv (.t 11), none⟩,
   ⟨some 63, .mv (.t 15), none⟩,
   ⟨some 64, .mv (.t 9), none⟩,
   ⟨some 65, .bin .mul (.t 63) (.t 64), none⟩,
   ⟨some 66, .bin .sub (.t 62) (.t 65), none⟩,
   ⟨some 16, .mv (.t 66), none⟩])
 (.seq (.blk 0 (.loop 0 (.seq (.seq (.reg [
    ⟨some 67, .mv (.t 15), none⟩,
    ⟨some 68, .bin .geq (.t 67) (.c (.int .u64 4294967296)), none⟩,
    ⟨some 69, .mv (.t 68), none⟩,
    ⟨some 70, .mv (.t 15), some (69, false)⟩,
    ⟨some 71, .mv (.t 10), some (69, false)⟩,
    ⟨some 72, .bin .mul (.t 70) (.t 71), some (69, false)⟩,
    ⟨some 73, .mv (.t 16), some (69, false)⟩,
    ⟨some 74, .bin .mul (.c (.int .u64 4294967296)) (.t 73), some (69, false)⟩,
    ⟨some 75, .mv (.t 13), some (69, false)⟩,
    ⟨some 76, .bin .add (.t 74) (.t 75), some (69, false)⟩,
    ⟨some 77, .bin .gtr (.t 72) (.t 76), some (69, false)⟩,
    ⟨some 78, .pick (.t 69) (.c (.bool true)) (.t 77), none⟩])
  (.cond (.t 78) .skip
  (.exit 0)))
  (.blk 1 (.seq (.reg [
    ⟨some 79, .mv (.t 15), none⟩,
    ⟨some 80, .bin .sub (.t 79) (.c (.int .u64 1)), none⟩,
    ⟨some 15, .mv (.t 80), none⟩])
  (.seq (.reg [
    ⟨some 81, .mv (.t 16), none⟩,
    ⟨some 82, .mv (.t 9), none⟩,
    ⟨some 83, .bin .add (.t 81) (.t 82), none⟩,
    ⟨some 16, .mv (.t 83), none⟩])
  (.seq (.reg [
    ⟨some 84, .mv (.t 16), none⟩,
    ⟨some 85, .bin .geq (.t 84) (.c (.int .u64 4294967296)), none⟩])
  (.cond (.t 85) (.exit 0)
  .skip))))))))
 (.seq (.reg [
   ⟨some 86, .mv (.t 11), none⟩,
   ⟨some 87, .bin .mul (.t 86) (.c (.int .u64 4294967296)), none⟩,
   ⟨some 88, .mv (.t 13), none⟩,
   ⟨some 89, .bin .add (.t 87) (.t 88), none⟩,
   ⟨some 90, .mv (.t 15), none⟩,
   ⟨some 91, .mv (.t 2), none⟩,
   ⟨some 92, .bin .mul (.t 90) (.t 91), none⟩,
   ⟨some 93, .bin .sub (.t 89) (.t 92), none⟩,
   ⟨some 17, .mv (.t 93), none⟩])
 (.seq (.reg [
   ⟨some 94, .mv (.t 17), none⟩,
   ⟨some 95, .mv (.t 9), none⟩,
   ⟨some 96, .bin .quo (.t 94) (.t 95), none⟩,
   ⟨some 18, .mv (.t 96), none⟩])
 (.seq (.reg [
   ⟨some 97, .mv (.t 17), none⟩,
   ⟨some 98, .mv (.t 18), none⟩,
   ⟨some 99, .mv (.t 9), none⟩,
   ⟨some 100, .bin .mul (.t 98) (.t 99), none⟩,
   ⟨some 101, .bin .sub (.t 97) (.t 100), none⟩,
   ⟨some 16, .mv (.t 101), none⟩])
 (.seq (.blk 2 (.loop 1 (.seq (.seq (.reg [
    ⟨some 102, .mv (.t 18), none⟩,
    ⟨some 103, .bin .geq (.t 102) (.c (.int .u64 4294967296)), none⟩,
    ⟨some 104, .mv (.t 103), none⟩,
    ⟨some 105, .mv (.t 18), some (104, false)⟩,
    ⟨some 106, .mv (.t 10), some (104, false)⟩,
    ⟨some 107, .bin .mul (.t 105) (.t 106), some (104, false)⟩,
    ⟨some 108, .mv (.t 16), some (104, false)⟩,
    ⟨some 109, .bin .mul (.c (.int .u64 4294967296)) (.t 108), some (104, false)⟩,
    ⟨some 110, .mv (.t 14), some (104, false)⟩,
    ⟨some 111, .bin .add (.t 109) (.t 110), some (104, false)⟩,
    ⟨some 112, .bin .gtr (.t 107) (.t 111), some (104, false)⟩,
    ⟨some 113, .pick (.t 104) (.c (.bool true)) (.t 112), none⟩])
  (.cond (.t 113) .skip
  (.exit 2)))
  (.blk 3 (.seq (.reg [
    ⟨some 114, .mv (.t 18), none⟩,
    ⟨some 115, .bin .sub (.t 114) (.c (.int .u64 1)), none⟩,
    ⟨some 18, .mv (.t 115), none⟩])
  (.seq (.reg [
    ⟨some 116, .mv (.t 16), none⟩,
    ⟨some 117, .mv (.t 9), none⟩,
    ⟨some 118, .bin .add (.t 116) (.t 117), none⟩,
    ⟨some 16, .mv (.t 118), none⟩])
  (.seq (.reg [
    ⟨some 119, .mv (.t 16), none⟩,
    ⟨some 120, .bin .geq (.t 119) (.c (.int .u64 4294967296)), none⟩])
  (.cond (.t 120) (.exit 2)
  .skip))))))))
 (.seq (.reg [
   ⟨some 121, .mv (.t 15), none⟩,
   ⟨some 122, .bin .mul (.t 121) (.c (.int .u64 4294967296)), none⟩,
   ⟨some 123, .mv (.t 18), none⟩,
   ⟨some 124, .bin .add (.t 122) (.t 123), none⟩,
   ⟨some 125, .mv (.t 17), none⟩,
   ⟨some 126, .bin .mul (.t 125) (.c (.int .u64 4294967296)), none⟩,
   ⟨some 127, .mv (.t 14), none⟩,
   ⟨some 128, .bin .add (.t 126) (.t 127), none⟩,
   ⟨some 129, .mv (.t 18), none⟩,
   ⟨some 130, .mv (.t 2), none⟩,
   ⟨some 131, .bin .mul (.t 129) (.t 130), none⟩,
   ⟨some 132, .bin .sub (.t 128) (.t 131), none⟩,
   ⟨some 133, .mv (.t 8), none⟩,
   ⟨some 134, .bin .shr (.t 132) (.t 133), none⟩,
   ⟨some 6, .mv (.t 124), none⟩,
   ⟨some 7, .mv (.t 134), none⟩])
 .ret)))))))))))))))))))),
  [.tmp 6, .tmp 7]⟩
theorem c217 : chkFn Tryz.prog Tryz.f217 a217 = true := by kernel_rfl

/-- slices.IndexFunc[[]besom/api.Spot,besom/api.Spot] -/
def a218 : AFn := ⟨2, (.seq (.reg [
   ⟨some 4, .mv (.c (.int .i64 0)), none⟩])
 (.seq (.seq (.reg [
   ⟨some 6, .mv (.t 0), none⟩,
   ⟨some 7, .len (.t 6), none⟩,
   ⟨some 8, .mv (.c (.int .i64 0)), none⟩])
 (.blk 0 (.loop 0 (.seq (.reg [
    ⟨some 9, .bin .lss (.t 8) (.t 7), none⟩])
  (.seq (.cond (.t 9) .skip
  (.exit 0))
  (.seq (.blk 1 (.seq (.reg [
    ⟨some 10, .mv (.t 8), none⟩,
    ⟨some 5, .mv (.t 10), none⟩])
  (.seq (.reg [
    ⟨some 11, .mv (.t 1), none⟩,
    ⟨some 12, .mv (.t 0), none⟩,
    ⟨some 13, .mv (.t 5), none⟩,
    ⟨some 14, .ia (.t 12) (.t 13) 2, none⟩,
    ⟨some 15, .ld 2 true (.t 14), none⟩,
    ⟨some 16, .call (.t 11) [(.t 15)], none⟩])
  (.cond (.t 16) (.seq (.reg [
     ⟨some 17, .mv (.t 5), none⟩,
     ⟨some 4, .mv (.t 17), none⟩])
   .ret)
  .skip))))
  (.reg [
    ⟨some 18, .bin .add (.t 8) (.c (.int .i64 1)), none⟩,
    ⟨some 8, .mv (.t 18), none⟩])))))))
 (.seq (.reg [
   ⟨some 4, .mv (.c (.int .i64 (-1))), none⟩])
 .ret))),
  [.tmp 4]⟩
theorem c218 : chkFn Tryz.prog Tryz.f218 a218 = true := by kernel_rfl

/-- besom/glide.tried$1 -/
def a219 : AFn := ⟨1, (.seq (.reg [
   ⟨some 4, .no, none⟩,
   ⟨some 1, .mv (.t 4), none⟩])
 (.seq (.reg [
   ⟨some 6, .mv (.t 1), none⟩,
   ⟨some 7, .tas 271 [(.int .i64 0)] (.t 6), none⟩,
   ⟨some 5, .mv (.t 7), none⟩,
   ⟨some 8, .ext (.t 5) 0, none⟩,
   ⟨some 9, .ext (.t 5) 1, none⟩,
   ⟨some 2, .alloc 271 [(.int .i64 0)], none⟩,
   ⟨none, .st 1 (.t 2) (.t 8), none⟩,
   ⟨some 3, .mv (.t 9), none⟩])
 (.seq (.reg [
   ⟨some 10, .mv (.t 3), none⟩])
 (.cond (.t 10) (.reg [
    ⟨some 11, .fa (.t 2) 0, none⟩,
    ⟨some 12, .ld 1 false (.t 11), none⟩,
    ⟨none, .st 1 (.t 0) (.t 12), none⟩])
 (.seq (.reg [
    ⟨some 13, .mv (.t 1), none⟩,
    ⟨some 14, .ifn true (.t 13), none⟩])
  (.cond (.t 14) (.reg [
     ⟨some 15, .mv (.t 1), none⟩,
     ⟨none, .pan (.t 15), none⟩])
  .skip)))))),
  []⟩
theorem c219 : chkFn Tryz.prog Tryz.f219 a219 = true := by kernel_rfl

/-- besom/glide.must[besom/api.Fix] -/
def a220 : AFn := ⟨2, (.seq (.reg [
   ⟨some 4, .mv (.c (.int .i64 0)), none⟩])
 (.seq (.seq (.reg [
   ⟨some 5, .mv (.t 1), none⟩,
   ⟨some 6, .bin .neq (.t 5) (.c (.int .i64 0)), none⟩])
 (.cond (.t 6) (.reg [
    ⟨some 7, .mv (.t 1), none⟩,
    ⟨some 8, .bld [(.int .i64 0)] [(0, 1, (.t 7))], none⟩,
    ⟨some 9, .mki 271 (.t 8), none⟩,
    ⟨none, .pan (.t 9), none⟩])
 .skip))
 (.seq (.reg [
   ⟨some 10, .mv (.t 0), none⟩,
   ⟨some 4, .mv (.t 10), none⟩])
 .ret))),
  [.tmp 4]⟩
theorem c220 : chkFn Tryz.prog Tryz.f220 a220 = true := by kernel_rfl

/-- besom/fixed.Length -/
def a221 : AFn := ⟨2, (.seq (.reg [
   ⟨some 2, .box 24 (.t 0), none⟩,
   ⟨some 3, .box 3 (.t 1), none⟩,
   ⟨some 4, .mv (.c (.int .i64 0)), none⟩,
   ⟨some 5, .mv (.c (.int .i64 0)), none⟩])
 (.seq (.reg [
   ⟨some 6, .mkf 229 [] [(.t 2), (.t 3)], none⟩,
   ⟨some 7, .call (.f 96) [(.t 6)], none⟩,
   ⟨some 8, .ext (.t 7) 0, none⟩,
   ⟨some 9, .ext (.t 7) 1, none⟩,
   ⟨some 4, .mv (.t 8), none⟩,
   ⟨some 5, .mv (.t 9), none⟩])
 .ret)),
  [.tmp 4, .tmp 5]⟩
theorem c221 : chkFn Tryz.prog Tryz.f221 a221 = true := by kernel_rfl

/-- besom/ice.Bend -/
def a222 : AFn := ⟨3, (.seq (.reg [
   ⟨some 3, .box 67 (.t 0), none⟩,
   ⟨some 4, .box 69 (.t 1), none⟩,
   ⟨some 5, .box 24 (.t 2), none⟩,
   ⟨some 6, .mv (.c (.int .i64 0)), none⟩,
   ⟨some 7, .mv (.c (.int .i64 0)), none⟩])
 (.seq (.seq (.reg [
   ⟨some 12, .ld 7 true (.t 3), none⟩,
   ⟨some 13, .ld 5 true (.t 4), none⟩,
   ⟨some 14, .ld 2 true (.t 5), none⟩,
   ⟨some 15, .bsl 24 [.int .i64, .int .i64] 1 [(.int .i64 0), (.int .i64 0)] [(0, 2, (.t 14))], none⟩,
   ⟨some 16, .call (.f 103) [(.t 12), (.t 13), (.t 15)], none⟩,
   ⟨some 17, .not (.t 16), none⟩])
 (.cond (.t 17) (.seq (.reg [
    ⟨some 6, .mv (.c (.int .i64 0)), none⟩,
    ⟨some 7, .mv (.c (.int .i64 2)), none⟩])
  .ret)
 .skip))
 (.seq (.reg [
   ⟨some 19, .ld 7 true (.t 3), none⟩,
   ⟨some 20, .ld 2 true (.t 5), none⟩,
   ⟨some 21, .call (.f 169) [(.t 19), (.t 20)], none⟩,
   ⟨some 18, .mv (.t 21), none⟩,
   ⟨some 22, .ext (.t 18) 0, none⟩,
   ⟨some 23, .ext (.t 18) 1, none⟩,
   ⟨some 8, .mv (.t 22), none⟩,
   ⟨some 9, .mv (.t 23), none⟩])
 (.seq (.reg [
   ⟨some 25, .fa (.t 4) 3, none⟩,
   ⟨some 26, .ld 1 false (.t 25), none⟩,
   ⟨some 27, .mv (.t 9), none⟩,
   ⟨some 28, .bin .sub (.c (.int .i64 2000)) (.t 27), none⟩,
   ⟨some 29, .bin .mul (.t 26) (.t 28), none⟩,
   ⟨some 30, .call (.f 86) [(.c (.int .i64 65536)), (.t 29), (.c (.int .i64 2000000)), (.c (.int .i64 3))], none⟩,
   ⟨some 24, .mv (.t 30), none⟩,
   ⟨some 31, .ext (.t 24) 0, none⟩,
   ⟨some 32, .ext (.t 24) 1, none⟩,
   ⟨some 10, .mv (.t 31), none⟩,
   ⟨some 11, .mv (.t 32), none⟩])
 (.seq (.reg [
   ⟨some 33, .mv (.t 10), none⟩,
   ⟨some 6, .mv (.t 33), none⟩,
   ⟨some 7, .mv (.c (.int .i64 0)), none⟩])
 .ret))))),
  [.tmp 6, .tmp 7]⟩
theorem c222 : chkFn Tryz.prog Tryz.f222 a222 = true := by kernel_rfl

/-- besom/glide.must[besom/api.Spot] -/
def a223 : AFn := ⟨2, (.seq (.reg [
   ⟨some 2, .box 24 (.t 0), none⟩,
   ⟨some 4, .alloc 24 [(.int .i64 0), (.int .i64 0)], none⟩])
 (.seq (.seq (.reg [
   ⟨some 5, .mv (.t 1), none⟩,
   ⟨some 6, .bin .neq (.t 5) (.c (.int .i64 0)), none⟩])
 (.cond (.t 6) (.reg [
    ⟨some 7, .mv (.t 1), none⟩,
    ⟨some 8, .bld [(.int .i64 0)] [(0, 1, (.t 7))], none⟩,
    ⟨some 9, .mki 271 (.t 8), none⟩,
    ⟨none, .pan (.t 9), none⟩])
 .skip))
 (.seq (.reg [
   ⟨some 10, .ld 2 true (.t 2), none⟩,
   ⟨none, .st 2 (.t 4) (.t 10), none⟩])
 .ret))),
  [.cell 4 2 true]⟩
theorem c223 : chkFn Tryz.prog Tryz.f223 a223 = true := by kernel_rfl

/-- besom/fixed.Left -/
def a224 : AFn := ⟨1, (.seq (.reg [
   ⟨some 1, .box 24 (.t 0), none⟩,
   ⟨some 2, .alloc 24 [(.int .i64 0), (.int .i64 0)], none⟩])
 (.seq (.seq (.reg [
   ⟨some 3, .fa (.t 1) 0, none⟩,
   ⟨some 4, .ld 1 false (.t 3), none⟩,
   ⟨some 5, .call (.f 230) [(.t 4)], none⟩,
   ⟨some 6, .bin .neq (.t 5) (.c (.int .i64 0)), none⟩,
   ⟨some 7, .mv (.t 6), none⟩,
   ⟨some 8, .fa (.t 1) 1, some (7, false)⟩,
   ⟨some 9, .ld 1 false (.t 8), some (7, false)⟩,
   ⟨some 10, .call (.f 230) [(.t 9)], some (7, false)⟩,
   ⟨some 11, .bin .neq (.t 10) (.c (.int .i64 0)), some (7, false)⟩,
   ⟨some 12, .pick (.t 7) (.c (.bool true)) (.t 11), none⟩])
 (.cond (.t 12) (.seq (.reg [
    ⟨some 13, .bld [(.int .i64 0), (.int .i64 0)] [], none⟩,
    ⟨none, .st 2 (.t 2) (.t 13), none⟩])
  .ret)
 .skip))
 (.seq (.reg [
   ⟨some 14, .fa (.t 1) 1, none⟩,
   ⟨some 15, .ld 1 false (.t 14), none⟩,
   ⟨some 16, .neg (.t 15), none⟩,
   ⟨some 17, .fa (.t 1) 0, none⟩,
   ⟨some 18, .ld 1 false (.t 17), none⟩,
   ⟨some 19, .bld [(.int .i64 0), (.int .i64 0)] [(0, 1, (.t 16)), (1, 1, (.t 18))], none⟩,
   ⟨none, .st 2 (.t 2) (.t 19), none⟩])
 .ret))),
  [.cell 2 2 true]⟩
theorem c224 : chkFn Tryz.prog Tryz.f224 a224 = true := by kernel_rfl

/-- besom/fixed.Mul -/
def a225 : AFn := ⟨3, (.seq (.reg [
   ⟨some 3, .box 22 (.t 0), none⟩,
   ⟨some 4, .box 22 (.t 1), none⟩,
   ⟨some 5, .box 3 (.t 2), none⟩,
   ⟨some 6, .mv (.c (.int .i64 0)), none⟩,
   ⟨some 7, .mv (.c (.int .i64 0)), none⟩])
 (.seq (.reg [
   ⟨some 8, .mkf 231 [] [(.t 3), (.t 4), (.t 5)], none⟩,
   ⟨some 9, .call (.f 96) [(.t 8)], none⟩,
   ⟨some 10, .ext (.t 9) 0, none⟩,
   ⟨some 11, .ext (.t 9) 1, none⟩,
   ⟨some 6, .mv (.t 10), none⟩,
   ⟨some 7, .mv (.t 11), none⟩])
 .ret)),
  [.tmp 6, .tmp 7]⟩
theorem c225 : chkFn Tryz.prog Tryz.f225 a225 = true := by kernel_rfl

/-- besom/besomref03.cell -/
def a226 : AFn := ⟨2, (.seq (.reg [
   ⟨some 2, .box 67 (.t 0), none⟩,
   ⟨some 3, .box 24 (.t 1), none⟩,
   ⟨some 4, .mv (.c (.int .i64 0)), none⟩])
 (.seq (.seq (.reg [
   ⟨some 7, .fa (.t 3) 0, none⟩,
   ⟨some 8, .ld 1 false (.t 7), none⟩,
   ⟨some 9, .fa (.t 2) 0, none⟩,
   ⟨some 10, .fa (.t 9) 0, none⟩,
   ⟨some 11, .ld 1 false (.t 10), none⟩,
   ⟨some 12, .bin .lss (.t 8) (.t 11), none⟩,
   ⟨some 13, .mv (.t 12), none⟩,
   ⟨some 14, .fa (.t 3) 1, some (13, false)⟩,
   ⟨some 15, .ld 1 false (.t 14), some (13, false)⟩,
   ⟨some 16, .fa (.t 2) 0, some (13, false)⟩,
   ⟨some 17, .fa (.t 16) 1, some (13, false)⟩,
   ⟨some 18, .ld 1 false (.t 17), some (13, false)⟩,
   ⟨some 19, .bin .lss (.t 15) (.t 18), some (13, false)⟩,
   ⟨some 20, .pick (.t 13) (.c (.bool true)) (.t 19), none⟩])
 (.cond (.t 20) (.seq (.reg [
    ⟨some 4, .mv (.c (.int .i64 (-1))), none⟩])
  .ret)
 .skip))
 (.seq (.reg [
   ⟨some 21, .fa (.t 3) 0, none⟩,
   ⟨some 22, .ld 1 false (.t 21), none⟩,
   ⟨some 23, .fa (.t 2) 0, none⟩,
   ⟨some 24, .fa (.t 23) 0, none⟩,
   ⟨some 25, .ld 1 false (.t 24), none⟩,
   ⟨some 26, .bin .sub (.t 22) (.t 25), none⟩,
   ⟨some 27, .fa (.t 2) 2, none⟩,
   ⟨some 28, .ld 1 false (.t 27), none⟩,
   ⟨some 29, .bin .quo (.t 26) (.t 28), none⟩,
   ⟨some 5, .mv (.t 29), none⟩])
 (.seq (.reg [
   ⟨some 30, .fa (.t 3) 1, none⟩,
   ⟨some 31, .ld 1 false (.t 30), none⟩,
   ⟨some 32, .fa (.t 2) 0, none⟩,
   ⟨some 33, .fa (.t 32) 1, none⟩,
   ⟨some 34, .ld 1 false (.t 33), none⟩,
   ⟨some 35, .bin .sub (.t 31) (.t 34), none⟩,
   ⟨some 36, .fa (.t 2) 2, none⟩,
   ⟨some 37, .ld 1 false (.t 36), none⟩,
   ⟨some 38, .bin .quo (.t 35) (.t 37), none⟩,
   ⟨some 6, .mv (.t 38), none⟩])
 (.seq (.seq (.reg [
   ⟨some 39, .mv (.t 5), none⟩,
   ⟨some 40, .fa (.t 2) 3, none⟩,
   ⟨some 41, .ld 1 false (.t 40), none⟩,
   ⟨some 42, .bin .geq (.t 39) (.t 41), none⟩,
   ⟨some 43, .mv (.t 42), none⟩,
   ⟨some 44, .mv (.t 6), some (43, false)⟩,
   ⟨some 45, .fa (.t 2) 4, some (43, false)⟩,
   ⟨some 46, .ld 1 false (.t 45), some (43, false)⟩,
   ⟨some 47, .bin .geq (.t 44) (.t 46), some (43, false)⟩,
   ⟨some 48, .pick (.t 43) (.c (.bool true)) (.t 47), none⟩])
 (.cond (.t 48) (.seq (.reg [
    ⟨some 4, .mv (.c (.int .i64 (-1))), none⟩])
  .ret)
 .skip))
 (.seq (.reg [
   ⟨some 49, .mv (.t 6), none⟩,
   ⟨some 50, .fa (.t 2) 3, none⟩,
   ⟨some 51, .ld 1 false (.t 50), none⟩,
   ⟨some 52, .bin .mul (.t 49) (.t 51), none⟩,
   ⟨some 53, .mv (.t 5), none⟩,
   ⟨some 54, .bin .add (.t 52) (.t 53), none⟩,
   ⟨some 4, .mv (.t 54), none⟩])
 .ret)))))),
  [.tmp 4]⟩
theorem c226 : chkFn Tryz.prog Tryz.f226 a226 = true := by kernel_rfl

/-- besom/besomref01.root -/
def a227 : AFn := ⟨1, (.seq (.reg [
   ⟨some 2, .mv (.c (.int .i64 0)), none⟩,
   ⟨some 3, .mv (.c (.bool false)), none⟩])
 (.seq (.reg [
   ⟨some 4, .mv (.c (.int .i64 0)), none⟩])
 (.seq (.seq (.reg [
   ⟨some 8, .mv (.t 0), none⟩,
   ⟨some 9, .len (.t 8), none⟩,
   ⟨some 10, .bin .mul (.c (.int .i64 15)) (.t 9), none⟩,
   ⟨some 11, .bin .quo (.t 10) (.c (.int .i64 2)), none⟩,
   ⟨some 12, .bin .add (.t 11) (.c (.int .i64 1)), none⟩,
   ⟨some 13, .mx true (.c (.int .i64 58)) (.t 12), none⟩,
   ⟨some 14, .bin .shl (.c (.int .i64 1)) (.t 13), none⟩,
   ⟨some 5, .mv (.t 14), none⟩])
 (.blk 0 (.loop 0 (.seq (.seq (.reg [
    ⟨some 15, .mv (.t 5), none⟩,
    ⟨some 16, .bin .gtr (.t 15) (.c (.int .i64 0)), none⟩])
  (.cond (.t 16) .skip
  (.exit 0)))
  (.seq (.blk 1 (.seq (.reg [
    ⟨some 19, .mv (.t 4), none⟩,
    ⟨some 20, .mv (.t 5), none⟩,
    ⟨some 21, .bin .add (.t 19) (.t 20), none⟩,
    ⟨some 22, .call (.f 130) [(.t 21)], none⟩,
    ⟨some 6, .mv (.t 22), none⟩])
  (.seq (.reg [
    ⟨some 23, .mv (.t 6), none⟩,
    ⟨some 24, .mv (.t 6), none⟩,
    ⟨some 25, .call (.f 134) [(.t 23), (.t 24)], none⟩,
    ⟨some 26, .mv (.t 0), none⟩,
    ⟨some 27, .call (.f 132) [(.t 25), (.t 26)], none⟩,
    ⟨some 28, .bin .leq (.t 27) (.c (.int .i64 0)), none⟩])
  (.cond (.t 28) (.reg [
     ⟨some 29, .mv (.t 4), none⟩,
     ⟨some 30, .mv (.t 5), none⟩,
     ⟨some 31, .bin .add (.t 29) (.t 30), none⟩,
     ⟨some 4, .mv (.t 31), none⟩])
  .skip))))
  (.reg [
    ⟨some 17, .mv (.t 5), none⟩,
    ⟨some 18, .bin .quo (.t 17) (.c (.int .i64 2)), none⟩,
    ⟨some 5, .mv (.t 18), none⟩]))))))
 (.seq (.reg [
   ⟨some 32, .mv (.t 4), none⟩,
   ⟨some 33, .call (.f 130) [(.t 32)], none⟩,
   ⟨some 7, .mv (.t 33), none⟩])
 (.seq (.reg [
   ⟨some 34, .mv (.t 4), none⟩,
   ⟨some 35, .mv (.t 7), none⟩,
   ⟨some 36, .mv (.t 7), none⟩,
   ⟨some 37, .call (.f 134) [(.t 35), (.t 36)], none⟩,
   ⟨some 38, .mv (.t 0), none⟩,
   ⟨some 39, .call (.f 132) [(.t 37), (.t 38)], none⟩,
   ⟨some 40, .bin .eql (.t 39) (.c (.int .i64 0)), none⟩,
   ⟨some 2, .mv (.t 34), none⟩,
   ⟨some 3, .mv (.t 40), none⟩])
 .ret))))),
  [.tmp 2, .tmp 3]⟩
theorem c227 : chkFn Tryz.prog Tryz.f227 a227 = true := by kernel_rfl

/-- math/bits.LeadingZeros64 -/
def a228 : AFn := ⟨1, (.seq (.reg [
   ⟨some 2, .mv (.c (.int .i64 0)), none⟩])
 (.seq (.reg [
   ⟨some 3, .mv (.t 0), none⟩,
   ⟨some 4, .call (.f 232) [(.t 3)], none⟩,
   ⟨some 5, .bin .sub (.c (.int .i64 64)) (.t 4), none⟩,
   ⟨some 2, .mv (.t 5), none⟩])
 .ret)),
  [.tmp 2]⟩
theorem c228 : chkFn Tryz.prog Tryz.f228 a228 = true := by kernel_rfl

/-- besom/fixed.Length$1 -/
def a229 : AFn := ⟨2, (.seq (.reg [
   ⟨some 2, .mv (.c (.int .i64 0)), none⟩])
 (.seq (.reg [
   ⟨some 4, .ld 2 true (.t 0), none⟩,
   ⟨some 5, .call (.f 124) [(.t 4)], none⟩,
   ⟨some 3, .alloc 167 [(.int .u64 0), (.int .u64 0)], none⟩,
   ⟨none, .st 2 (.t 3) (.t 5), none⟩])
 (.seq (.drw [
   (⟨some 6, .ld 2 true (.t 3), none⟩, []),
   (⟨some 7, .ld 1 false (.t 1), none⟩, []),
   (⟨some 8, .call (.f 99) [(.t 7)], none⟩, [1]),
   (⟨some 9, .call (.f 101) [(.t 6), (.t 8)], none⟩, [0, 2, 1]),
   (⟨some 2, .mv (.t 9), none⟩, [3, 0, 2, 1])])
 .ret))),
  [.tmp 2]⟩
theorem c229 : chkFn Tryz.prog Tryz.f229 a229 = true := by kernel_rfl

/-- besom/fixed.Check -/
def a230 : AFn := ⟨1, (.seq (.reg [
   ⟨some 1, .box 22 (.t 0), none⟩,
   ⟨some 2, .mv (.c (.int .i64 0)), none⟩])
 (.seq (.reg [
   ⟨some 6, .mkf 234 [] [(.t 1)], none⟩,
   ⟨some 7, .call (.f 233) [(.t 6)], none⟩,
   ⟨some 5, .mv (.t 7), none⟩,
   ⟨some 8, .ext (.t 5) 0, none⟩,
   ⟨some 9, .ext (.t 5) 1, none⟩,
   ⟨some 3, .mv (.t 8), none⟩,
   ⟨some 4, .mv (.t 9), none⟩])
 (.seq (.reg [
   ⟨some 10, .mv (.t 4), none⟩,
   ⟨some 2, .mv (.t 10), none⟩])
 .ret))),
  [.tmp 2]⟩
theorem c230 : chkFn Tryz.prog Tryz.f230 a230 = true := by kernel_rfl

/-- besom/fixed.Mul$1 -/
def a231 : AFn := ⟨3, (.seq (.reg [
   ⟨some 3, .mv (.c (.int .i64 0)), none⟩])
 (.seq (.drw [
   (⟨some 4, .ld 1 false (.t 0), none⟩, []),
   (⟨some 5, .ld 1 false (.t 1), none⟩, []),
   (⟨some 6, .ld 1 false (.t 2), none⟩, []),
   (⟨some 7, .call (.f 99) [(.t 6)], none⟩, [2]),
   (⟨some 8, .call (.f 147) [(.t 4), (.t 5), (.t 7)], none⟩, [0, 1, 3, 2]),
   (⟨some 3, .mv (.t 8), none⟩, [4, 0, 1, 3, 2])])
 .ret)),
  [.tmp 3]⟩
theorem c231 : chkFn Tryz.prog Tryz.f231 a231 = true := by kernel_rfl

/-- A constant text, as bytes. -/
def tb232_0 : List Nat := [0, 1, 2, 2, 3, 3, 3, 3, 4, 4, 4, 4, 4, 4, 4, 4, 5, 5, 5, 5, 5, 5, 5, 5, 5, 5, 5, 5, 5, 5, 5, 5, 6, 6, 6, 6, 6, 6, 6, 6, 6, 6, 6, 6, 6, 6, 6, 6, 6, 6, 6, 6, 6, 6, 6, 6, 6, 6, 6, 6, 6, 6, 6, 6, 7, 7, 7, 7, 7, 7, 7, 7, 7, 7, 7, 7, 7, 7, 7, 7, 7, 7, 7, 7, 7, 7, 7, 7, 7, 7, 7, 7, 7, 7, 7, 7, 7, 7, 7, 7, 7, 7, 7, 7, 7, 7, 7, 7, 7, 7, 7, 7, 7, 7, 7, 7, 7, 7, 7, 7, 7, 7, 7, 7, 7, 7, 7, 7, 8, 8, 8, 8, 8, 8, 8, 8, 8, 8, 8, 8, 8, 8, 8, 8, 8, 8, 8, 8, 8, 8, 8, 8, 8, 8, 8, 8, 8, 8, 8, 8, 8, 8, 8, 8, 8, 8, 8, 8, 8, 8, 8, 8, 8, 8, 8, 8, 8, 8, 8, 8, 8, 8, 8, 8, 8, 8, 8, 8, 8, 8, 8, 8, 8, 8, 8, 8, 8, 8, 8, 8, 8, 8, 8, 8, 8, 8, 8, 8, 8, 8, 8, 8, 8, 8, 8, 8, 8, 8, 8, 8, 8, 8, 8, 8, 8, 8, 8, 8, 8, 8, 8, 8, 8, 8, 8, 8, 8, 8, 8, 8, 8, 8, 8, 8, 8, 8, 8, 8, 8, 8, 8, 8, 8, 8, 8, 8]
/-- math/bits.Len64 -/
def a232 : AFn := ⟨1, (.seq (.reg [
   ⟨some 2, .mv (.c (.int .i64 0)), none⟩])
 (.seq (.seq (.reg [
   ⟨some 3, .mv (.t 0), none⟩,
   ⟨some 4, .bin .geq (.t 3) (.c (.int .u64 4294967296)), none⟩])
 (.cond (.t 4) (.seq (.reg [
    ⟨some 5, .mv (.t 0), none⟩,
    ⟨some 6, .bin .shr (.t 5) (.c (.int .u64 32)), none⟩,
    ⟨some 0, .mv (.t 6), none⟩])
  (.reg [
    ⟨some 2, .mv (.c (.int .i64 32)), none⟩]))
 .skip))
 (.seq (.seq (.reg [
   ⟨some 7, .mv (.t 0), none⟩,
   ⟨some 8, .bin .geq (.t 7) (.c (.int .u64 65536)), none⟩])
 (.cond (.t 8) (.seq (.reg [
    ⟨some 9, .mv (.t 0), none⟩,
    ⟨some 10, .bin .shr (.t 9) (.c (.int .u64 16)), none⟩,
    ⟨some 0, .mv (.t 10), none⟩])
  (.reg [
    ⟨some 11, .mv (.t 2), none⟩,
    ⟨some 12, .bin .add (.t 11) (.c (.int .i64 16)), none⟩,
    ⟨some 2, .mv (.t 12), none⟩]))
 .skip))
 (.seq (.seq (.reg [
   ⟨some 13, .mv (.t 0), none⟩,
   ⟨some 14, .bin .geq (.t 13) (.c (.int .u64 256)), none⟩])
 (.cond (.t 14) (.seq (.reg [
    ⟨some 15, .mv (.t 0), none⟩,
    ⟨some 16, .bin .shr (.t 15) (.c (.int .u64 8)), none⟩,
    ⟨some 0, .mv (.t 16), none⟩])
  (.reg [
    ⟨some 17, .mv (.t 2), none⟩,
    ⟨some 18, .bin .add (.t 17) (.c (.int .i64 8)), none⟩,
    ⟨some 2, .mv (.t 18), none⟩]))
 .skip))
 (.seq (.reg [
   ⟨some 19, .mv (.t 2), none⟩,
   ⟨some 20, .mv (.t 0), none⟩,
   ⟨some 21, .cv .u8 (.t 20), none⟩,
   ⟨some 22, .ixs tb232_0 (.t 21), none⟩,
   ⟨some 23, .cv .i64 (.t 22), none⟩,
   ⟨some 24, .bin .add (.t 19) (.t 23), none⟩,
   ⟨some 2, .mv (.t 24), none⟩])
 .ret))))),
  [.tmp 2]⟩
theorem c232 : chkFn Tryz.prog Tryz.f232 a232 = true := by kernel_rfl

/-- besom/fixed.tried[int] -/
def a233 : TFn := ⟨(.reg [
   ⟨some 2, .alloc 3 [(.int .i64 0)], none⟩,
   ⟨some 3, .alloc 29 [(.int .i64 0)], none⟩]), 235, [2, 3], 4,
 (.seq (.reg [
   ⟨some 5, .mv (.t 0), none⟩,
   ⟨some 6, .call (.t 5) [], none⟩,
   ⟨none, .st 1 (.t 2) (.t 6), none⟩,
   ⟨none, .st 1 (.t 3) (.c (.int .i64 0)), none⟩])
 .ret),
  [.cell 2 1 false, .cell 3 1 false], 6, 2,
 (.seq (.reg [
   ⟨some 8, .mv (.t 2), none⟩,
   ⟨some 9, .tas 219 [(.int .i64 0)] (.t 8), none⟩,
   ⟨some 7, .mv (.t 9), none⟩,
   ⟨some 10, .ext (.t 7) 0, none⟩,
   ⟨some 11, .ext (.t 7) 1, none⟩,
   ⟨some 3, .alloc 219 [(.int .i64 0)], none⟩,
   ⟨none, .st 1 (.t 3) (.t 10), none⟩,
   ⟨some 4, .mv (.t 11), none⟩])
 (.seq (.reg [
   ⟨some 12, .mv (.t 4), none⟩])
 (.cond (.t 12) (.seq (.reg [
    ⟨some 5, .mv (.c (.int .i64 0)), none⟩])
  (.drw [
    (⟨some 13, .mv (.t 5), none⟩, []),
    (⟨some 14, .fa (.t 3) 0, none⟩, []),
    (⟨some 15, .ld 1 false (.t 14), none⟩, [1]),
    (⟨none, .st 1 (.t 0) (.t 13), none⟩, [0]),
    (⟨none, .st 1 (.t 1) (.t 15), none⟩, [2, 1, 3, 0])]))
 (.seq (.reg [
    ⟨some 16, .mv (.t 2), none⟩,
    ⟨some 17, .ifn true (.t 16), none⟩])
  (.cond (.t 17) (.reg [
     ⟨some 18, .mv (.t 2), none⟩,
     ⟨none, .pan (.t 18), none⟩])
  .skip)))))⟩
theorem c233 : chkMain Tryz.prog Tryz.f233 a233 = true := by kernel_rfl
theorem d233 : chkDef Tryz.prog Tryz.f235 a233 = true := by kernel_rfl

/-- besom/fixed.Check$1 -/
def a234 : AFn := ⟨1, (.seq (.reg [
   ⟨some 1, .mv (.c (.int .i64 0)), none⟩])
 (.seq (.reg [
   ⟨some 2, .ld 1 false (.t 0), none⟩,
   ⟨some 3, .bsl 22 [.int .i64] 1 [(.int .i64 0)] [(0, 1, (.t 2))], none⟩,
   ⟨some 4, .call (.f 98) [(.t 3)], none⟩])
 (.seq (.reg [
   ⟨some 1, .mv (.c (.int .i64 0)), none⟩])
 .ret))),
  [.tmp 1]⟩
theorem c234 : chkFn Tryz.prog Tryz.f234 a234 = true := by kernel_rfl

/-- besom/fixed.tried[int]$1 -/
def a235 : AFn := ⟨2, (.seq (.reg [
   ⟨some 6, .no, none⟩,
   ⟨some 2, .mv (.t 6), none⟩])
 (.seq (.reg [
   ⟨some 8, .mv (.t 2), none⟩,
   ⟨some 9, .tas 219 [(.int .i64 0)] (.t 8), none⟩,
   ⟨some 7, .mv (.t 9), none⟩,
   ⟨some 10, .ext (.t 7) 0, none⟩,
   ⟨some 11, .ext (.t 7) 1, none⟩,
   ⟨some 3, .alloc 219 [(.int .i64 0)], none⟩,
   ⟨none, .st 1 (.t 3) (.t 10), none⟩,
   ⟨some 4, .mv (.t 11), none⟩])
 (.seq (.reg [
   ⟨some 12, .mv (.t 4), none⟩])
 (.cond (.t 12) (.seq (.reg [
    ⟨some 5, .mv (.c (.int .i64 0)), none⟩])
  (.drw [
    (⟨some 13, .mv (.t 5), none⟩, []),
    (⟨some 14, .fa (.t 3) 0, none⟩, []),
    (⟨some 15, .ld 1 false (.t 14), none⟩, [1]),
    (⟨none, .st 1 (.t 0) (.t 13), none⟩, [0]),
    (⟨none, .st 1 (.t 1) (.t 15), none⟩, [2, 1, 3, 0])]))
 (.seq (.reg [
    ⟨some 16, .mv (.t 2), none⟩,
    ⟨some 17, .ifn true (.t 16), none⟩])
  (.cond (.t 17) (.reg [
     ⟨some 18, .mv (.t 2), none⟩,
     ⟨none, .pan (.t 18), none⟩])
  .skip)))))),
  []⟩
theorem c235 : chkFn Tryz.prog Tryz.f235 a235 = true := by kernel_rfl

end Go.Proofs.YtbolfnkgbjkbjaaGreat.AM
