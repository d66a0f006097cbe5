/- Functions of the program, as code of the small language: those of which something is shown by hand. Printed by seat2.py. -/
import Derived.Test.YtodehankgheooaaEyB3
namespace Ey.Da
set_option maxRecDepth 100000
/-- eyot/dfa.May -/
def a21 : AFn := ⟨1, (.seq (.ops [⟨some 1, .bim 258 (.t 0), none⟩,
  ⟨some 2, .mv (.k (.bool false)), none⟩])
 (.seq (.ops [⟨some 6, .fa 0 256 true (.t 1), none⟩,
  ⟨some 7, .sla 256 (.t 6) none none, none⟩,
  ⟨some 8, .call 43 [(.t 7)], none⟩,
  ⟨some 9, .cvi .i64 (.t 8), none⟩,
  ⟨some 10, .bin .add (.t 9) (.k (.int .i64 1)), none⟩,
  ⟨some 3, .mv (.t 10), none⟩])
 (.seq (.seq (.ops [⟨some 11, .fa 256 1 false (.t 1), none⟩,
  ⟨some 12, .ldi 1 false (.t 11), none⟩,
  ⟨some 13, .len (.t 12), none⟩,
  ⟨some 14, .bin .lss (.t 13) (.k (.int .i64 1)), none⟩,
  ⟨some 15, .mv (.t 14), none⟩,
  ⟨some 16, .fa 257 1 false (.t 1), some (15, false)⟩,
  ⟨some 17, .ldi 1 false (.t 16), some (15, false)⟩,
  ⟨some 18, .len (.t 17), some (15, false)⟩,
  ⟨some 19, .fa 256 1 false (.t 1), some (15, false)⟩,
  ⟨some 20, .ldi 1 false (.t 19), some (15, false)⟩,
  ⟨some 21, .len (.t 20), some (15, false)⟩,
  ⟨some 22, .bin .neq (.t 18) (.t 21), some (15, false)⟩,
  ⟨some 23, .pick (.t 15) (.k (.bool true)) (.t 22), none⟩,
  ⟨some 24, .mv (.t 23), none⟩,
  ⟨some 25, .fa 257 1 false (.t 1), some (24, false)⟩,
  ⟨some 26, .ldi 1 false (.t 25), some (24, false)⟩,
  ⟨some 27, .call 44 [(.t 26)], some (24, false)⟩,
  ⟨some 28, .bin .lss (.t 27) (.k (.int .i64 (-1))), some (24, false)⟩,
  ⟨some 29, .pick (.t 24) (.k (.bool true)) (.t 28), none⟩])
 (.cond (.t 29) (.seq (.ops [⟨some 2, .mv (.k (.bool false)), none⟩])
 .ret) .skip))
 (.seq (.seq (.ops [⟨some 30, .fa 256 1 false (.t 1), none⟩,
  ⟨some 31, .ldi 1 false (.t 30), none⟩,
  ⟨some 32, .len (.t 31), none⟩,
  ⟨some 33, .mv (.k (.int .i64 0)), none⟩])
 (.block 0 (.loop [1, 3, 31, 32, 33, 42, 43, 44, 47, 48, 49, 50, 51, 52] (.seq (.ops [⟨some 34, .bin .lss (.t 33) (.t 32), none⟩])
 (.seq (.cond (.t 34) .skip (.exit 0))
 (.seq (.block 1 (.seq (.ops [⟨some 35, .ix 1 (.t 31) (.t 33), none⟩,
  ⟨some 36, .ld 1 false (.t 35), none⟩,
  ⟨some 5, .mv (.t 36), none⟩])
 (.seq (.dops [⟨some 37, .mv (.t 5), none⟩,
  ⟨some 38, .len (.t 37), none⟩,
  ⟨some 39, .mv (.t 3), none⟩,
  ⟨some 40, .bin .neq (.t 38) (.t 39), none⟩,
  ⟨some 41, .mv (.t 40), none⟩,
  ⟨some 42, .mv (.t 5), some (41, false)⟩,
  ⟨some 43, .call 44 [(.t 42)], some (41, false)⟩,
  ⟨some 44, .bin .lss (.t 43) (.k (.int .i64 (-1))), some (41, false)⟩,
  ⟨some 45, .pick (.t 41) (.k (.bool true)) (.t 44), none⟩,
  ⟨some 46, .mv (.t 45), none⟩,
  ⟨some 47, .mv (.t 5), some (46, false)⟩,
  ⟨some 48, .call 42 [(.t 47)], some (46, false)⟩,
  ⟨some 49, .fa 256 1 false (.t 1), some (46, false)⟩,
  ⟨some 50, .ldi 1 false (.t 49), some (46, false)⟩,
  ⟨some 51, .len (.t 50), some (46, false)⟩,
  ⟨some 52, .bin .geq (.t 48) (.t 51), some (46, false)⟩,
  ⟨some 53, .pick (.t 46) (.k (.bool true)) (.t 52), none⟩])
 (.cond (.t 53) (.seq (.ops [⟨some 2, .mv (.k (.bool false)), none⟩])
 .ret) .skip))))
 (.ops [⟨some 54, .bin .add (.t 33) (.k (.int .i64 1)), none⟩,
  ⟨some 33, .mv (.t 54), none⟩])))))))
 (.seq (.ops [⟨some 2, .mv (.k (.bool true)), none⟩])
 .ret))))), [.tmp 2], true⟩
/-- eyot/dfa.Walk -/
def a22 : AFn := ⟨2, (.seq (.ops [⟨some 2, .bim 258 (.t 0), none⟩,
  ⟨some 4, .mv (.k (.int .i64 0)), none⟩,
  ⟨some 5, .mv (.k (.int .i64 0)), none⟩])
 (.seq (.ops [⟨some 4, .mv (.k (.int .i64 (-1))), none⟩])
 (.seq (.ops [⟨some 6, .mv (.k (.int .i64 0)), none⟩])
 (.seq (.seq (.ops [⟨some 9, .mv (.t 1), none⟩,
  ⟨some 10, .len (.t 9), none⟩,
  ⟨some 11, .mv (.k (.int .i64 0)), none⟩])
 (.block 0 (.loop [2, 4, 5, 6, 9, 10, 11] (.seq (.ops [⟨some 12, .bin .lss (.t 11) (.t 10), none⟩])
 (.seq (.cond (.t 12) .skip (.exit 0))
 (.seq (.block 1 (.seq (.ops [⟨some 13, .mv (.t 11), none⟩,
  ⟨some 14, .ix 1 (.t 9) (.t 11), none⟩,
  ⟨some 15, .ld 1 false (.t 14), none⟩,
  ⟨some 7, .mv (.t 13), none⟩,
  ⟨some 8, .mv (.t 15), none⟩])
 (.seq (.seq (.dops [⟨some 16, .fa 256 1 false (.t 2), none⟩,
  ⟨some 17, .ldi 1 false (.t 16), none⟩,
  ⟨some 18, .mv (.t 6), none⟩,
  ⟨some 19, .ix 1 (.t 17) (.t 18), none⟩,
  ⟨some 20, .ld 1 false (.t 19), none⟩,
  ⟨some 21, .mv (.t 8), none⟩,
  ⟨some 22, .fa 0 256 true (.t 2), none⟩,
  ⟨some 23, .ia 256 1 false (.t 22) (.t 21), none⟩,
  ⟨some 24, .ldi 1 false (.t 23), none⟩,
  ⟨some 25, .ix 1 (.t 20) (.t 24), none⟩,
  ⟨some 26, .ld 1 false (.t 25), none⟩,
  ⟨some 6, .mv (.t 26), none⟩])
 (.seq (.ops [⟨some 27, .mv (.t 6), none⟩,
  ⟨some 28, .bin .lss (.t 27) (.k (.int .i64 0)), none⟩])
 (.cond (.t 28) (.exit 0) .skip)))
 (.seq (.ops [⟨some 29, .fa 257 1 false (.t 2), none⟩,
  ⟨some 30, .ldi 1 false (.t 29), none⟩,
  ⟨some 31, .mv (.t 6), none⟩,
  ⟨some 32, .ix 1 (.t 30) (.t 31), none⟩,
  ⟨some 33, .ld 1 false (.t 32), none⟩,
  ⟨some 34, .bin .geq (.t 33) (.k (.int .i64 0)), none⟩])
 (.cond (.t 34) (.ops [⟨some 35, .fa 257 1 false (.t 2), none⟩,
  ⟨some 36, .ldi 1 false (.t 35), none⟩,
  ⟨some 37, .mv (.t 6), none⟩,
  ⟨some 38, .ix 1 (.t 36) (.t 37), none⟩,
  ⟨some 39, .ld 1 false (.t 38), none⟩,
  ⟨some 40, .mv (.t 7), none⟩,
  ⟨some 41, .bin .add (.t 40) (.k (.int .i64 1)), none⟩,
  ⟨some 4, .mv (.t 39), none⟩,
  ⟨some 5, .mv (.t 41), none⟩]) .skip)))))
 (.ops [⟨some 42, .bin .add (.t 11) (.k (.int .i64 1)), none⟩,
  ⟨some 11, .mv (.t 42), none⟩])))))))
 (.seq (.ops [⟨some 43, .mv (.t 4), none⟩,
  ⟨some 44, .mv (.t 5), none⟩,
  ⟨some 4, .mv (.t 43), none⟩,
  ⟨some 5, .mv (.t 44), none⟩])
 .ret))))), [.tmp 4, .tmp 5], true⟩
/-- eyot/dfa.Longest -/
def a23 : AFn := ⟨2, (.seq (.ops [⟨some 2, .bim 258 (.t 0), none⟩,
  ⟨some 4, .mv (.k (.int .i64 0)), none⟩,
  ⟨some 5, .mv (.k (.int .i64 0)), none⟩])
 (.seq (.seq (.ops [⟨some 6, .ldi 258 true (.t 2), none⟩,
  ⟨some 7, .call 21 [(.t 6)], none⟩,
  ⟨some 8, .un .not (.t 7), none⟩])
 (.cond (.t 8) (.seq (.ops [⟨some 4, .mv (.k (.int .i64 (-1))), none⟩,
  ⟨some 5, .mv (.k (.int .i64 0)), none⟩])
 .ret) .skip))
 (.seq (.ops [⟨some 9, .ldi 258 true (.t 2), none⟩,
  ⟨some 10, .mv (.t 1), none⟩,
  ⟨some 11, .call 22 [(.t 9), (.t 10)], none⟩,
  ⟨some 12, .ext 0 (.t 11), none⟩,
  ⟨some 13, .ext 1 (.t 11), none⟩,
  ⟨some 4, .mv (.t 12), none⟩,
  ⟨some 5, .mv (.t 13), none⟩])
 .ret))), [.tmp 4, .tmp 5], true⟩
/-- eyot/dfa.Run -/
def a26 : AFn := ⟨2, (.seq (.ops [⟨some 2, .bim 258 (.t 0), none⟩,
  ⟨some 4, .mv (.k (.int .i64 0)), none⟩])
 (.seq (.seq (.ops [⟨some 8, .ldi 258 true (.t 2), none⟩,
  ⟨some 9, .call 21 [(.t 8)], none⟩,
  ⟨some 10, .un .not (.t 9), none⟩])
 (.cond (.t 10) (.seq (.ops [⟨some 4, .mv (.k (.int .i64 (-1))), none⟩])
 .ret) .skip))
 (.seq (.ops [⟨some 5, .mv (.k (.int .i64 0)), none⟩])
 (.seq (.seq (.ops [⟨some 11, .mv (.t 1), none⟩,
  ⟨some 12, .len (.t 11), none⟩,
  ⟨some 13, .mv (.k (.int .i64 0)), none⟩])
 (.block 0 (.loop [2, 5, 11, 12, 13] (.seq (.ops [⟨some 14, .bin .lss (.t 13) (.t 12), none⟩])
 (.seq (.cond (.t 14) .skip (.exit 0))
 (.seq (.block 1 (.seq (.ops [⟨some 15, .ix 1 (.t 11) (.t 13), none⟩,
  ⟨some 16, .ld 1 false (.t 15), none⟩,
  ⟨some 7, .mv (.t 16), none⟩])
 (.seq (.dops [⟨some 17, .fa 256 1 false (.t 2), none⟩,
  ⟨some 18, .ldi 1 false (.t 17), none⟩,
  ⟨some 19, .mv (.t 5), none⟩,
  ⟨some 20, .ix 1 (.t 18) (.t 19), none⟩,
  ⟨some 21, .ld 1 false (.t 20), none⟩,
  ⟨some 22, .mv (.t 7), none⟩,
  ⟨some 23, .fa 0 256 true (.t 2), none⟩,
  ⟨some 24, .ia 256 1 false (.t 23) (.t 22), none⟩,
  ⟨some 25, .ldi 1 false (.t 24), none⟩,
  ⟨some 26, .ix 1 (.t 21) (.t 25), none⟩,
  ⟨some 27, .ld 1 false (.t 26), none⟩,
  ⟨some 5, .mv (.t 27), none⟩])
 (.seq (.ops [⟨some 28, .mv (.t 5), none⟩,
  ⟨some 29, .bin .lss (.t 28) (.k (.int .i64 0)), none⟩])
 (.cond (.t 29) (.seq (.ops [⟨some 4, .mv (.k (.int .i64 (-1))), none⟩])
 .ret) .skip)))))
 (.ops [⟨some 30, .bin .add (.t 13) (.k (.int .i64 1)), none⟩,
  ⟨some 13, .mv (.t 30), none⟩])))))))
 (.seq (.ops [⟨some 31, .fa 257 1 false (.t 2), none⟩,
  ⟨some 32, .ldi 1 false (.t 31), none⟩,
  ⟨some 33, .mv (.t 5), none⟩,
  ⟨some 34, .ix 1 (.t 32) (.t 33), none⟩,
  ⟨some 35, .ld 1 false (.t 34), none⟩,
  ⟨some 4, .mv (.t 35), none⟩])
 .ret))))), [.tmp 4], true⟩
/-- eyot/eyotref11.Longest -/
def a28 : AFn := ⟨2, (.seq (.ops [⟨some 2, .bim 258 (.t 0), none⟩,
  ⟨some 4, .mv (.k (.int .i64 0)), none⟩,
  ⟨some 5, .mv (.k (.int .i64 0)), none⟩])
 (.seq (.seq (.ops [⟨some 8, .ldi 258 true (.t 2), none⟩,
  ⟨some 9, .call 29 [(.t 8)], none⟩,
  ⟨some 10, .un .not (.t 9), none⟩])
 (.cond (.t 10) (.seq (.ops [⟨some 4, .mv (.k (.int .i64 (-1))), none⟩,
  ⟨some 5, .mv (.k (.int .i64 0)), none⟩])
 .ret) .skip))
 (.seq (.seq (.ops [⟨some 11, .mv (.t 1), none⟩,
  ⟨some 12, .len (.t 11), none⟩,
  ⟨some 6, .mv (.t 12), none⟩])
 (.block 0 (.loop [1, 2, 6] (.seq (.seq (.ops [⟨some 13, .mv (.t 6), none⟩,
  ⟨some 14, .bin .gtr (.t 13) (.k (.int .i64 0)), none⟩])
 (.cond (.t 14) .skip (.exit 0)))
 (.seq (.block 1 (.seq (.dops [⟨some 17, .ldi 258 true (.t 2), none⟩,
  ⟨some 18, .mv (.t 1), none⟩,
  ⟨some 19, .mv (.t 6), none⟩,
  ⟨some 20, .sl 1 (.t 18) none (some (.t 19)) none, none⟩,
  ⟨some 21, .call 30 [(.t 17), (.t 20)], none⟩,
  ⟨some 7, .mv (.t 21), none⟩])
 (.seq (.ops [⟨some 22, .mv (.t 7), none⟩,
  ⟨some 23, .bin .geq (.t 22) (.k (.int .i64 0)), none⟩])
 (.cond (.t 23) (.seq (.ops [⟨some 24, .mv (.t 7), none⟩,
  ⟨some 25, .mv (.t 6), none⟩,
  ⟨some 4, .mv (.t 24), none⟩,
  ⟨some 5, .mv (.t 25), none⟩])
 .ret) .skip))))
 (.ops [⟨some 15, .mv (.t 6), none⟩,
  ⟨some 16, .bin .sub (.t 15) (.k (.int .i64 1)), none⟩,
  ⟨some 6, .mv (.t 16), none⟩]))))))
 (.seq (.ops [⟨some 4, .mv (.k (.int .i64 (-1))), none⟩,
  ⟨some 5, .mv (.k (.int .i64 0)), none⟩])
 .ret)))), [.tmp 4, .tmp 5], true⟩
/-- eyot/eyotref11.May -/
def a29 : AFn := ⟨1, (.seq (.ops [⟨some 1, .bim 258 (.t 0), none⟩,
  ⟨some 2, .mv (.k (.bool false)), none⟩])
 (.seq (.seq (.ops [⟨some 7, .fa 256 1 false (.t 1), none⟩,
  ⟨some 8, .ldi 1 false (.t 7), none⟩,
  ⟨some 9, .len (.t 8), none⟩,
  ⟨some 10, .bin .eql (.t 9) (.k (.int .i64 0)), none⟩,
  ⟨some 11, .mv (.t 10), none⟩,
  ⟨some 12, .fa 257 1 false (.t 1), some (11, false)⟩,
  ⟨some 13, .ldi 1 false (.t 12), some (11, false)⟩,
  ⟨some 14, .len (.t 13), some (11, false)⟩,
  ⟨some 15, .fa 256 1 false (.t 1), some (11, false)⟩,
  ⟨some 16, .ldi 1 false (.t 15), some (11, false)⟩,
  ⟨some 17, .len (.t 16), some (11, false)⟩,
  ⟨some 18, .bin .neq (.t 14) (.t 17), some (11, false)⟩,
  ⟨some 19, .pick (.t 11) (.k (.bool true)) (.t 18), none⟩])
 (.cond (.t 19) (.seq (.ops [⟨some 2, .mv (.k (.bool false)), none⟩])
 .ret) .skip))
 (.seq (.ops [⟨some 3, .mv (.k (.int .i64 0)), none⟩])
 (.seq (.seq (.ops [⟨some 4, .mv (.k (.int .i64 0)), none⟩])
 (.block 0 (.loop [1, 3, 4, 48, 49, 50, 51, 52, 53, 70, 71, 72, 73, 74, 75, 76, 77, 78, 79, 80, 81] (.seq (.seq (.ops [⟨some 20, .mv (.t 4), none⟩,
  ⟨some 21, .bin .lss (.t 20) (.k (.int .i64 256)), none⟩])
 (.cond (.t 21) .skip (.exit 0)))
 (.seq (.block 1 (.ops [⟨some 24, .mv (.t 3), none⟩,
  ⟨some 25, .mv (.t 4), none⟩,
  ⟨some 26, .fa 0 256 true (.t 1), none⟩,
  ⟨some 27, .ia 256 1 false (.t 26) (.t 25), none⟩,
  ⟨some 28, .ldi 1 false (.t 27), none⟩,
  ⟨some 29, .cvi .i64 (.t 28), none⟩,
  ⟨some 30, .bin .add (.t 29) (.k (.int .i64 1)), none⟩,
  ⟨some 31, .mnmx true (.t 24) (.t 30), none⟩,
  ⟨some 3, .mv (.t 31), none⟩]))
 (.ops [⟨some 22, .mv (.t 4), none⟩,
  ⟨some 23, .bin .add (.t 22) (.k (.int .i64 1)), none⟩,
  ⟨some 4, .mv (.t 23), none⟩]))))))
 (.seq (.seq (.ops [⟨some 5, .mv (.k (.int .i64 0)), none⟩])
 (.block 2 (.loop [1, 3, 5, 48, 49, 50, 51, 52, 53, 70, 71, 72, 73, 74, 75, 76, 77, 78, 79, 80, 81] (.seq (.seq (.ops [⟨some 32, .mv (.t 5), none⟩,
  ⟨some 33, .fa 256 1 false (.t 1), none⟩,
  ⟨some 34, .ldi 1 false (.t 33), none⟩,
  ⟨some 35, .len (.t 34), none⟩,
  ⟨some 36, .bin .lss (.t 32) (.t 35), none⟩])
 (.cond (.t 36) .skip (.exit 2)))
 (.seq (.block 3 (.seq (.seq (.ops [⟨some 39, .fa 256 1 false (.t 1), none⟩,
  ⟨some 40, .ldi 1 false (.t 39), none⟩,
  ⟨some 41, .mv (.t 5), none⟩,
  ⟨some 42, .ix 1 (.t 40) (.t 41), none⟩,
  ⟨some 43, .ld 1 false (.t 42), none⟩,
  ⟨some 44, .len (.t 43), none⟩,
  ⟨some 45, .mv (.t 3), none⟩,
  ⟨some 46, .bin .neq (.t 44) (.t 45), none⟩,
  ⟨some 47, .mv (.t 46), none⟩,
  ⟨some 48, .fa 257 1 false (.t 1), some (47, false)⟩,
  ⟨some 49, .ldi 1 false (.t 48), some (47, false)⟩,
  ⟨some 50, .mv (.t 5), some (47, false)⟩,
  ⟨some 51, .ix 1 (.t 49) (.t 50), some (47, false)⟩,
  ⟨some 52, .ld 1 false (.t 51), some (47, false)⟩,
  ⟨some 53, .bin .lss (.t 52) (.k (.int .i64 (-1))), some (47, false)⟩,
  ⟨some 54, .pick (.t 47) (.k (.bool true)) (.t 53), none⟩])
 (.cond (.t 54) (.seq (.ops [⟨some 2, .mv (.k (.bool false)), none⟩])
 .ret) .skip))
 (.seq (.ops [⟨some 6, .mv (.k (.int .i64 0)), none⟩])
 (.block 4 (.loop [1, 3, 5, 6, 48, 49, 50, 51, 52, 53, 70, 71, 72, 73, 74, 75, 76, 77, 78, 79, 80, 81] (.seq (.seq (.ops [⟨some 55, .mv (.t 6), none⟩,
  ⟨some 56, .mv (.t 3), none⟩,
  ⟨some 57, .bin .lss (.t 55) (.t 56), none⟩])
 (.cond (.t 57) .skip (.exit 4)))
 (.seq (.block 5 (.seq (.dops [⟨some 60, .fa 256 1 false (.t 1), none⟩,
  ⟨some 61, .ldi 1 false (.t 60), none⟩,
  ⟨some 62, .mv (.t 5), none⟩,
  ⟨some 63, .ix 1 (.t 61) (.t 62), none⟩,
  ⟨some 64, .ld 1 false (.t 63), none⟩,
  ⟨some 65, .mv (.t 6), none⟩,
  ⟨some 66, .ix 1 (.t 64) (.t 65), none⟩,
  ⟨some 67, .ld 1 false (.t 66), none⟩,
  ⟨some 68, .bin .lss (.t 67) (.k (.int .i64 (-1))), none⟩,
  ⟨some 69, .mv (.t 68), none⟩,
  ⟨some 70, .fa 256 1 false (.t 1), some (69, false)⟩,
  ⟨some 71, .ldi 1 false (.t 70), some (69, false)⟩,
  ⟨some 72, .mv (.t 5), some (69, false)⟩,
  ⟨some 73, .ix 1 (.t 71) (.t 72), some (69, false)⟩,
  ⟨some 74, .ld 1 false (.t 73), some (69, false)⟩,
  ⟨some 75, .mv (.t 6), some (69, false)⟩,
  ⟨some 76, .ix 1 (.t 74) (.t 75), some (69, false)⟩,
  ⟨some 77, .ld 1 false (.t 76), some (69, false)⟩,
  ⟨some 78, .fa 256 1 false (.t 1), some (69, false)⟩,
  ⟨some 79, .ldi 1 false (.t 78), some (69, false)⟩,
  ⟨some 80, .len (.t 79), some (69, false)⟩,
  ⟨some 81, .bin .geq (.t 77) (.t 80), some (69, false)⟩,
  ⟨some 82, .pick (.t 69) (.k (.bool true)) (.t 81), none⟩])
 (.cond (.t 82) (.seq (.ops [⟨some 2, .mv (.k (.bool false)), none⟩])
 .ret) .skip)))
 (.ops [⟨some 58, .mv (.t 6), none⟩,
  ⟨some 59, .bin .add (.t 58) (.k (.int .i64 1)), none⟩,
  ⟨some 6, .mv (.t 59), none⟩]))))))))
 (.ops [⟨some 37, .mv (.t 5), none⟩,
  ⟨some 38, .bin .add (.t 37) (.k (.int .i64 1)), none⟩,
  ⟨some 5, .mv (.t 38), none⟩]))))))
 (.seq (.ops [⟨some 2, .mv (.k (.bool true)), none⟩])
 .ret)))))), [.tmp 2], true⟩
/-- eyot/eyotref11.Run -/
def a30 : AFn := ⟨2, (.seq (.ops [⟨some 2, .bim 258 (.t 0), none⟩,
  ⟨some 4, .mv (.k (.int .i64 0)), none⟩])
 (.seq (.seq (.ops [⟨some 7, .ldi 258 true (.t 2), none⟩,
  ⟨some 8, .call 29 [(.t 7)], none⟩,
  ⟨some 9, .un .not (.t 8), none⟩])
 (.cond (.t 9) (.seq (.ops [⟨some 4, .mv (.k (.int .i64 (-1))), none⟩])
 .ret) .skip))
 (.seq (.ops [⟨some 5, .mv (.k (.int .i64 0)), none⟩])
 (.seq (.seq (.ops [⟨some 6, .mv (.k (.int .i64 0)), none⟩])
 (.block 0 (.loop [1, 2, 5, 6, 15, 16] (.seq (.seq (.ops [⟨some 10, .mv (.t 6), none⟩,
  ⟨some 11, .mv (.t 1), none⟩,
  ⟨some 12, .len (.t 11), none⟩,
  ⟨some 13, .bin .lss (.t 10) (.t 12), none⟩,
  ⟨some 14, .mv (.t 13), none⟩,
  ⟨some 15, .mv (.t 5), some (14, true)⟩,
  ⟨some 16, .bin .geq (.t 15) (.k (.int .i64 0)), some (14, true)⟩,
  ⟨some 17, .pick (.t 14) (.t 16) (.k (.bool false)), none⟩])
 (.cond (.t 17) .skip (.exit 0)))
 (.seq (.block 1 (.dops [⟨some 20, .fa 256 1 false (.t 2), none⟩,
  ⟨some 21, .ldi 1 false (.t 20), none⟩,
  ⟨some 22, .mv (.t 5), none⟩,
  ⟨some 23, .ix 1 (.t 21) (.t 22), none⟩,
  ⟨some 24, .ld 1 false (.t 23), none⟩,
  ⟨some 25, .mv (.t 1), none⟩,
  ⟨some 26, .mv (.t 6), none⟩,
  ⟨some 27, .ix 1 (.t 25) (.t 26), none⟩,
  ⟨some 28, .ld 1 false (.t 27), none⟩,
  ⟨some 29, .fa 0 256 true (.t 2), none⟩,
  ⟨some 30, .ia 256 1 false (.t 29) (.t 28), none⟩,
  ⟨some 31, .ldi 1 false (.t 30), none⟩,
  ⟨some 32, .ix 1 (.t 24) (.t 31), none⟩,
  ⟨some 33, .ld 1 false (.t 32), none⟩,
  ⟨some 5, .mv (.t 33), none⟩]))
 (.ops [⟨some 18, .mv (.t 6), none⟩,
  ⟨some 19, .bin .add (.t 18) (.k (.int .i64 1)), none⟩,
  ⟨some 6, .mv (.t 19), none⟩]))))))
 (.seq (.seq (.ops [⟨some 34, .mv (.t 5), none⟩,
  ⟨some 35, .bin .lss (.t 34) (.k (.int .i64 0)), none⟩])
 (.cond (.t 35) (.seq (.ops [⟨some 4, .mv (.k (.int .i64 (-1))), none⟩])
 .ret) .skip))
 (.seq (.ops [⟨some 36, .fa 257 1 false (.t 2), none⟩,
  ⟨some 37, .ldi 1 false (.t 36), none⟩,
  ⟨some 38, .mv (.t 5), none⟩,
  ⟨some 39, .ix 1 (.t 37) (.t 38), none⟩,
  ⟨some 40, .ld 1 false (.t 39), none⟩,
  ⟨some 4, .mv (.t 40), none⟩])
 .ret)))))), [.tmp 4], true⟩
/-- slices.Max[[]int,int] -/
def a42 : AFn := ⟨1, (.seq (.ops [⟨some 2, .mv (.k (.int .i64 0)), none⟩])
 (.seq (.seq (.ops [⟨some 5, .mv (.t 0), none⟩,
  ⟨some 6, .len (.t 5), none⟩,
  ⟨some 7, .bin .lss (.t 6) (.k (.int .i64 1)), none⟩])
 (.cond (.t 7) (.ops [⟨some 8, .mkif 0 (.k (.str [115, 108, 105, 99, 101, 115, 46, 77, 97, 120, 58, 32, 101, 109, 112, 116, 121, 32, 108, 105, 115, 116])), none⟩,
  ⟨none, .pan (.t 8), none⟩]) .skip))
 (.seq (.ops [⟨some 9, .mv (.t 0), none⟩,
  ⟨some 10, .ix 1 (.t 9) (.k (.int .i64 0)), none⟩,
  ⟨some 11, .ld 1 false (.t 10), none⟩,
  ⟨some 3, .mv (.t 11), none⟩])
 (.seq (.seq (.ops [⟨some 4, .mv (.k (.int .i64 1)), none⟩])
 (.block 0 (.loop [0, 3, 4] (.seq (.seq (.ops [⟨some 12, .mv (.t 4), none⟩,
  ⟨some 13, .mv (.t 0), none⟩,
  ⟨some 14, .len (.t 13), none⟩,
  ⟨some 15, .bin .lss (.t 12) (.t 14), none⟩])
 (.cond (.t 15) .skip (.exit 0)))
 (.seq (.block 1 (.ops [⟨some 18, .mv (.t 3), none⟩,
  ⟨some 19, .mv (.t 0), none⟩,
  ⟨some 20, .mv (.t 4), none⟩,
  ⟨some 21, .ix 1 (.t 19) (.t 20), none⟩,
  ⟨some 22, .ld 1 false (.t 21), none⟩,
  ⟨some 23, .mnmx true (.t 18) (.t 22), none⟩,
  ⟨some 3, .mv (.t 23), none⟩]))
 (.ops [⟨some 16, .mv (.t 4), none⟩,
  ⟨some 17, .bin .add (.t 16) (.k (.int .i64 1)), none⟩,
  ⟨some 4, .mv (.t 17), none⟩]))))))
 (.seq (.ops [⟨some 24, .mv (.t 3), none⟩,
  ⟨some 2, .mv (.t 24), none⟩])
 .ret))))), [.tmp 2], true⟩
/-- slices.Max[[]uint8,uint8] -/
def a43 : AFn := ⟨1, (.seq (.ops [⟨some 2, .mv (.k (.int .u8 0)), none⟩])
 (.seq (.seq (.ops [⟨some 5, .mv (.t 0), none⟩,
  ⟨some 6, .len (.t 5), none⟩,
  ⟨some 7, .bin .lss (.t 6) (.k (.int .i64 1)), none⟩])
 (.cond (.t 7) (.ops [⟨some 8, .mkif 0 (.k (.str [115, 108, 105, 99, 101, 115, 46, 77, 97, 120, 58, 32, 101, 109, 112, 116, 121, 32, 108, 105, 115, 116])), none⟩,
  ⟨none, .pan (.t 8), none⟩]) .skip))
 (.seq (.ops [⟨some 9, .mv (.t 0), none⟩,
  ⟨some 10, .ix 1 (.t 9) (.k (.int .i64 0)), none⟩,
  ⟨some 11, .ld 1 false (.t 10), none⟩,
  ⟨some 3, .mv (.t 11), none⟩])
 (.seq (.seq (.ops [⟨some 4, .mv (.k (.int .i64 1)), none⟩])
 (.block 0 (.loop [0, 3, 4] (.seq (.seq (.ops [⟨some 12, .mv (.t 4), none⟩,
  ⟨some 13, .mv (.t 0), none⟩,
  ⟨some 14, .len (.t 13), none⟩,
  ⟨some 15, .bin .lss (.t 12) (.t 14), none⟩])
 (.cond (.t 15) .skip (.exit 0)))
 (.seq (.block 1 (.ops [⟨some 18, .mv (.t 3), none⟩,
  ⟨some 19, .mv (.t 0), none⟩,
  ⟨some 20, .mv (.t 4), none⟩,
  ⟨some 21, .ix 1 (.t 19) (.t 20), none⟩,
  ⟨some 22, .ld 1 false (.t 21), none⟩,
  ⟨some 23, .mnmx true (.t 18) (.t 22), none⟩,
  ⟨some 3, .mv (.t 23), none⟩]))
 (.ops [⟨some 16, .mv (.t 4), none⟩,
  ⟨some 17, .bin .add (.t 16) (.k (.int .i64 1)), none⟩,
  ⟨some 4, .mv (.t 17), none⟩]))))))
 (.seq (.ops [⟨some 24, .mv (.t 3), none⟩,
  ⟨some 2, .mv (.t 24), none⟩])
 .ret))))), [.tmp 2], true⟩
/-- slices.Min[[]int,int] -/
def a44 : AFn := ⟨1, (.seq (.ops [⟨some 2, .mv (.k (.int .i64 0)), none⟩])
 (.seq (.seq (.ops [⟨some 5, .mv (.t 0), none⟩,
  ⟨some 6, .len (.t 5), none⟩,
  ⟨some 7, .bin .lss (.t 6) (.k (.int .i64 1)), none⟩])
 (.cond (.t 7) (.ops [⟨some 8, .mkif 0 (.k (.str [115, 108, 105, 99, 101, 115, 46, 77, 105, 110, 58, 32, 101, 109, 112, 116, 121, 32, 108, 105, 115, 116])), none⟩,
  ⟨none, .pan (.t 8), none⟩]) .skip))
 (.seq (.ops [⟨some 9, .mv (.t 0), none⟩,
  ⟨some 10, .ix 1 (.t 9) (.k (.int .i64 0)), none⟩,
  ⟨some 11, .ld 1 false (.t 10), none⟩,
  ⟨some 3, .mv (.t 11), none⟩])
 (.seq (.seq (.ops [⟨some 4, .mv (.k (.int .i64 1)), none⟩])
 (.block 0 (.loop [0, 3, 4] (.seq (.seq (.ops [⟨some 12, .mv (.t 4), none⟩,
  ⟨some 13, .mv (.t 0), none⟩,
  ⟨some 14, .len (.t 13), none⟩,
  ⟨some 15, .bin .lss (.t 12) (.t 14), none⟩])
 (.cond (.t 15) .skip (.exit 0)))
 (.seq (.block 1 (.ops [⟨some 18, .mv (.t 3), none⟩,
  ⟨some 19, .mv (.t 0), none⟩,
  ⟨some 20, .mv (.t 4), none⟩,
  ⟨some 21, .ix 1 (.t 19) (.t 20), none⟩,
  ⟨some 22, .ld 1 false (.t 21), none⟩,
  ⟨some 23, .mnmx false (.t 18) (.t 22), none⟩,
  ⟨some 3, .mv (.t 23), none⟩]))
 (.ops [⟨some 16, .mv (.t 4), none⟩,
  ⟨some 17, .bin .add (.t 16) (.k (.int .i64 1)), none⟩,
  ⟨some 4, .mv (.t 17), none⟩]))))))
 (.seq (.ops [⟨some 24, .mv (.t 3), none⟩,
  ⟨some 2, .mv (.t 24), none⟩])
 .ret))))), [.tmp 2], true⟩
/-- eyot/eyotlaw11.DfaAny -/
def a47 : AFn := ⟨2, (.seq (.ops [⟨some 2, .bim 258 (.t 0), none⟩,
  ⟨some 4, .mv (.k (.bool false)), none⟩])
 (.seq (.seq (.ops [⟨some 9, .call 27 [], none⟩,
  ⟨some 10, .un .not (.t 9), none⟩])
 (.cond (.t 10) (.seq (.ops [⟨some 4, .mv (.k (.bool false)), none⟩])
 .ret) .skip))
 (.seq (.seq (.ops [⟨some 11, .fa 256 1 false (.t 2), none⟩,
  ⟨some 12, .ldi 1 false (.t 11), none⟩,
  ⟨some 13, .len (.t 12), none⟩,
  ⟨some 14, .bin .gtr (.t 13) (.k (.int .i64 10)), none⟩,
  ⟨some 15, .mv (.t 14), none⟩,
  ⟨some 16, .mv (.t 1), some (15, false)⟩,
  ⟨some 17, .len (.t 16), some (15, false)⟩,
  ⟨some 18, .bin .gtr (.t 17) (.k (.int .i64 20)), some (15, false)⟩,
  ⟨some 19, .pick (.t 15) (.k (.bool true)) (.t 18), none⟩])
 (.cond (.t 19) (.seq (.ops [⟨some 4, .mv (.k (.bool true)), none⟩])
 .ret) .skip))
 (.seq (.ops [⟨some 21, .ldi 258 true (.t 2), none⟩,
  ⟨some 22, .mv (.t 1), none⟩,
  ⟨some 23, .call 23 [(.t 21), (.t 22)], none⟩,
  ⟨some 20, .mv (.t 23), none⟩,
  ⟨some 24, .ext 0 (.t 20), none⟩,
  ⟨some 25, .ext 1 (.t 20), none⟩,
  ⟨some 5, .mv (.t 24), none⟩,
  ⟨some 6, .mv (.t 25), none⟩])
 (.seq (.ops [⟨some 27, .ldi 258 true (.t 2), none⟩,
  ⟨some 28, .mv (.t 1), none⟩,
  ⟨some 29, .call 28 [(.t 27), (.t 28)], none⟩,
  ⟨some 26, .mv (.t 29), none⟩,
  ⟨some 30, .ext 0 (.t 26), none⟩,
  ⟨some 31, .ext 1 (.t 26), none⟩,
  ⟨some 7, .mv (.t 30), none⟩,
  ⟨some 8, .mv (.t 31), none⟩])
 (.seq (.dops [⟨some 32, .ldi 258 true (.t 2), none⟩,
  ⟨some 33, .call 21 [(.t 32)], none⟩,
  ⟨some 34, .ldi 258 true (.t 2), none⟩,
  ⟨some 35, .call 29 [(.t 34)], none⟩,
  ⟨some 36, .eq false .bool (.t 33) (.t 35), none⟩,
  ⟨some 37, .mv (.t 36), none⟩,
  ⟨some 38, .ldi 258 true (.t 2), some (37, true)⟩,
  ⟨some 39, .mv (.t 1), some (37, true)⟩,
  ⟨some 40, .call 26 [(.t 38), (.t 39)], some (37, true)⟩,
  ⟨some 41, .ldi 258 true (.t 2), some (37, true)⟩,
  ⟨some 42, .mv (.t 1), some (37, true)⟩,
  ⟨some 43, .call 30 [(.t 41), (.t 42)], some (37, true)⟩,
  ⟨some 44, .bin .eql (.t 40) (.t 43), some (37, true)⟩,
  ⟨some 45, .pick (.t 37) (.t 44) (.k (.bool false)), none⟩,
  ⟨some 46, .mv (.t 45), none⟩,
  ⟨some 47, .mv (.t 5), some (46, true)⟩,
  ⟨some 48, .mv (.t 7), some (46, true)⟩,
  ⟨some 49, .bin .eql (.t 47) (.t 48), some (46, true)⟩,
  ⟨some 50, .pick (.t 46) (.t 49) (.k (.bool false)), none⟩,
  ⟨some 51, .mv (.t 50), none⟩,
  ⟨some 52, .mv (.t 6), some (51, true)⟩,
  ⟨some 53, .mv (.t 8), some (51, true)⟩,
  ⟨some 54, .bin .eql (.t 52) (.t 53), some (51, true)⟩,
  ⟨some 55, .pick (.t 51) (.t 54) (.k (.bool false)), none⟩,
  ⟨some 4, .mv (.t 55), none⟩])
 .ret)))))), [.tmp 4], true⟩
end Ey.Da
