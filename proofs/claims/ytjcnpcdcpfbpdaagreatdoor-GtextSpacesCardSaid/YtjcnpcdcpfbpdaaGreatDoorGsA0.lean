/- Functions of the program, as code of the small language. Printed by seat2.py. -/
import Derived.Test.YtjcnpcdcpfbpdaaGreatDoorEyRow
namespace Ey.Gs
set_option maxRecDepth 100000
/-- eyot/class.Has -/
def a0 : AFn := ⟨2, (.seq (.ops [⟨some 2, .bim 4 (.t 0), none⟩,
  ⟨some 4, .mv (.k (.bool false)), none⟩])
 (.seq (.ops [⟨some 5, .mv (.t 1), none⟩,
  ⟨some 6, .bin .quo (.t 5) (.k (.int .u8 64)), none⟩,
  ⟨some 7, .ia 4 1 false (.t 2) (.t 6), none⟩,
  ⟨some 8, .ldi 1 false (.t 7), none⟩,
  ⟨some 9, .mv (.t 1), none⟩,
  ⟨some 10, .bin .rem (.t 9) (.k (.int .u8 64)), none⟩,
  ⟨some 11, .bin .shr (.t 8) (.t 10), none⟩,
  ⟨some 12, .bin .and (.t 11) (.k (.int .u64 1)), none⟩,
  ⟨some 13, .bin .eql (.t 12) (.k (.int .u64 1)), none⟩,
  ⟨some 4, .mv (.t 13), none⟩])
 .ret)), [.tmp 4], true⟩
/-- (*eyot/place.Places).walk -/
def a1 : AFn := ⟨2, (.seq (.ops [⟨some 3, .bim 6 (.t 1), none⟩,
  ⟨some 4, .alv ([.list true [], .list true [], .bool false]), none⟩])
 (.seq (.seq (.ops [⟨some 15, .fa 0 1 false (.t 3), none⟩,
  ⟨some 16, .ldi 1 false (.t 15), none⟩])
 (.block 0 (.seq (.ops [⟨some 18, .bin .eql (.t 16) (.k (.int .i64 1)), none⟩,
  ⟨some 17, .mv (.t 18), none⟩])
 (.cond (.t 17) (.seq (.ops [⟨some 19, .mv (.t 0), none⟩,
  ⟨some 20, .nilc (.t 19), none⟩,
  ⟨some 21, .fa 0 1 false (.t 20), none⟩,
  ⟨some 22, .ld 1 false (.t 21), none⟩,
  ⟨some 23, .len (.t 22), none⟩,
  ⟨some 5, .mv (.t 23), none⟩])
 (.seq (.dops [⟨some 24, .mv (.t 0), none⟩,
  ⟨some 25, .mv (.t 0), none⟩,
  ⟨some 26, .mv (.t 0), none⟩,
  ⟨some 27, .nilc (.t 26), none⟩,
  ⟨some 28, .fa 0 1 false (.t 27), none⟩,
  ⟨some 29, .ldo 1 false (.t 28), none⟩,
  ⟨some 30, .fa 1 4 true (.t 3), none⟩,
  ⟨some 31, .ldi 4 true (.t 30), none⟩,
  ⟨some 32, .mkl (.agg ([.int .u64 0, .int .u64 0, .int .u64 0, .int .u64 0])) 1 [(0, (.t 31))], none⟩,
  ⟨some 33, .app 4 (.t 29) (.t 32), none⟩,
  ⟨some 34, .mv (.t 0), none⟩,
  ⟨some 35, .nilc (.t 34), none⟩,
  ⟨some 36, .fa 3 1 false (.t 35), none⟩,
  ⟨some 37, .ldo 1 false (.t 36), none⟩,
  ⟨some 38, .mkl (.list true []) 1 [(0, (.k (.list true [])))], none⟩,
  ⟨some 39, .app 1 (.t 37) (.t 38), none⟩,
  ⟨some 40, .nilc (.t 24), none⟩,
  ⟨some 41, .fa 0 1 false (.t 40), none⟩,
  ⟨none, .sto 1 (.t 41) (.t 33), none⟩,
  ⟨some 42, .nilc (.t 25), none⟩,
  ⟨some 43, .fa 3 1 false (.t 42), none⟩,
  ⟨none, .sto 1 (.t 43) (.t 39), none⟩])
 (.seq (.ops [⟨some 44, .mv (.t 5), none⟩,
  ⟨some 45, .mkl (.int .i64 0) 1 [(0, (.t 44))], none⟩,
  ⟨some 46, .mv (.t 5), none⟩,
  ⟨some 47, .mkl (.int .i64 0) 1 [(0, (.t 46))], none⟩,
  ⟨some 48, .bld (.agg ([.list true [], .list true [], .bool false])) [((0, 1), (.t 45)), ((1, 1), (.t 47)), ((2, 1), (.k (.bool false)))], none⟩,
  ⟨none, .st 3 (.t 4) (.t 48), none⟩])
 .ret))) (.seq (.ops [⟨some 50, .bin .eql (.t 16) (.k (.int .i64 2)), none⟩,
  ⟨some 49, .mv (.t 50), none⟩])
 (.cond (.t 49) (.seq (.ops [⟨some 51, .bld (.agg ([.list true [], .list true [], .bool false])) [((2, 1), (.k (.bool true)))], none⟩,
  ⟨some 6, .alv ([.list true [], .list true [], .bool false]), none⟩,
  ⟨none, .st 3 (.t 6) (.t 51), none⟩])
 (.seq (.seq (.ops [⟨some 52, .fa 5 1 false (.t 3), none⟩,
  ⟨some 53, .ldi 1 false (.t 52), none⟩,
  ⟨some 54, .len (.t 53), none⟩,
  ⟨some 55, .mv (.k (.int .i64 0)), none⟩])
 (.block 1 (.loop [0, 4, 6, 53, 54, 55, 91, 92] (.seq (.ops [⟨some 56, .bin .lss (.t 55) (.t 54), none⟩])
 (.seq (.cond (.t 56) .skip (.exit 1))
 (.seq (.block 2 (.seq (.ops [⟨some 57, .ix 6 (.t 53) (.t 55), none⟩,
  ⟨some 58, .ld 6 true (.t 57), none⟩,
  ⟨some 8, .alv ([.int .i64 0, .int .u64 0, .int .u64 0, .int .u64 0, .int .u64 0, .list true []]), none⟩,
  ⟨none, .st 6 (.t 8) (.t 58), none⟩])
 (.seq (.ops [⟨some 59, .mv (.t 0), none⟩,
  ⟨some 60, .ldl 6 true 8, none⟩,
  ⟨some 61, .call 1 [(.t 59), (.t 60)], none⟩,
  ⟨some 9, .alv ([.list true [], .list true [], .bool false]), none⟩,
  ⟨none, .st 3 (.t 9) (.t 61), none⟩])
 (.seq (.ops [⟨some 62, .mv (.t 0), none⟩,
  ⟨some 63, .fa 1 1 false (.t 6), none⟩,
  ⟨some 64, .ldp 1 false (.t 63), none⟩,
  ⟨some 65, .fa 0 1 false (.t 9), none⟩,
  ⟨some 66, .ldp 1 false (.t 65), none⟩,
  ⟨some 67, .call 96 [(.t 62), (.t 64), (.t 66)], none⟩])
 (.seq (.seq (.ops [⟨some 68, .fa 2 1 false (.t 6), none⟩,
  ⟨some 69, .ldp 1 false (.t 68), none⟩])
 (.cond (.t 69) (.ops [⟨some 70, .fa 0 1 false (.t 6), none⟩,
  ⟨some 71, .ldp 1 false (.t 70), none⟩,
  ⟨some 72, .fa 0 1 false (.t 9), none⟩,
  ⟨some 73, .ldp 1 false (.t 72), none⟩,
  ⟨some 74, .call 95 [(.t 71), (.t 73)], none⟩,
  ⟨some 75, .fa 0 1 false (.t 6), none⟩,
  ⟨none, .st 1 (.t 75) (.t 74), none⟩]) .skip))
 (.seq (.seq (.ops [⟨some 76, .fa 2 1 false (.t 9), none⟩,
  ⟨some 77, .ldp 1 false (.t 76), none⟩])
 (.cond (.t 77) (.ops [⟨some 78, .fa 1 1 false (.t 6), none⟩,
  ⟨some 79, .ldp 1 false (.t 78), none⟩,
  ⟨some 80, .fa 1 1 false (.t 9), none⟩,
  ⟨some 81, .ldp 1 false (.t 80), none⟩,
  ⟨some 82, .call 95 [(.t 79), (.t 81)], none⟩,
  ⟨some 83, .fa 1 1 false (.t 9), none⟩,
  ⟨none, .st 1 (.t 83) (.t 82), none⟩]) .skip))
 (.ops [⟨some 84, .fa 0 1 false (.t 6), none⟩,
  ⟨some 85, .ldp 1 false (.t 84), none⟩,
  ⟨some 86, .fa 1 1 false (.t 9), none⟩,
  ⟨some 87, .ldp 1 false (.t 86), none⟩,
  ⟨some 88, .fa 2 1 false (.t 6), none⟩,
  ⟨some 89, .ldp 1 false (.t 88), none⟩,
  ⟨some 90, .mv (.t 89), none⟩,
  ⟨some 91, .fa 2 1 false (.t 9), some (90, true)⟩,
  ⟨some 92, .ldp 1 false (.t 91), some (90, true)⟩,
  ⟨some 93, .pick (.t 90) (.t 92) (.k (.bool false)), none⟩,
  ⟨some 94, .bld (.agg ([.list true [], .list true [], .bool false])) [((0, 1), (.t 85)), ((1, 1), (.t 87)), ((2, 1), (.t 93))], none⟩,
  ⟨none, .st 3 (.t 6) (.t 94), none⟩])))))))
 (.ops [⟨some 95, .bin .add (.t 55) (.k (.int .i64 1)), none⟩,
  ⟨some 55, .mv (.t 95), none⟩])))))))
 (.seq (.ops [⟨some 96, .ldl 3 true 6, none⟩,
  ⟨none, .st 3 (.t 4) (.t 96), none⟩])
 .ret))) (.seq (.ops [⟨some 98, .bin .eql (.t 16) (.k (.int .i64 3)), none⟩,
  ⟨some 97, .mv (.t 98), none⟩])
 (.cond (.t 97) (.seq (.ops [⟨some 10, .alv ([.list true [], .list true [], .bool false]), none⟩])
 (.seq (.seq (.ops [⟨some 99, .fa 5 1 false (.t 3), none⟩,
  ⟨some 100, .ldi 1 false (.t 99), none⟩,
  ⟨some 101, .len (.t 100), none⟩,
  ⟨some 102, .mv (.k (.int .i64 0)), none⟩])
 (.block 3 (.loop [0, 4, 10, 100, 101, 102, 122, 123] (.seq (.ops [⟨some 103, .bin .lss (.t 102) (.t 101), none⟩])
 (.seq (.cond (.t 103) .skip (.exit 3))
 (.seq (.block 4 (.seq (.ops [⟨some 104, .ix 6 (.t 100) (.t 102), none⟩,
  ⟨some 105, .ld 6 true (.t 104), none⟩,
  ⟨some 12, .alv ([.int .i64 0, .int .u64 0, .int .u64 0, .int .u64 0, .int .u64 0, .list true []]), none⟩,
  ⟨none, .st 6 (.t 12) (.t 105), none⟩])
 (.seq (.ops [⟨some 106, .mv (.t 0), none⟩,
  ⟨some 107, .ldl 6 true 12, none⟩,
  ⟨some 108, .call 1 [(.t 106), (.t 107)], none⟩,
  ⟨some 13, .alv ([.list true [], .list true [], .bool false]), none⟩,
  ⟨none, .st 3 (.t 13) (.t 108), none⟩])
 (.dops [⟨some 109, .fa 0 1 false (.t 10), none⟩,
  ⟨some 110, .ldp 1 false (.t 109), none⟩,
  ⟨some 111, .fa 0 1 false (.t 13), none⟩,
  ⟨some 112, .ldp 1 false (.t 111), none⟩,
  ⟨some 113, .call 95 [(.t 110), (.t 112)], none⟩,
  ⟨some 114, .fa 1 1 false (.t 10), none⟩,
  ⟨some 115, .ldp 1 false (.t 114), none⟩,
  ⟨some 116, .fa 1 1 false (.t 13), none⟩,
  ⟨some 117, .ldp 1 false (.t 116), none⟩,
  ⟨some 118, .call 95 [(.t 115), (.t 117)], none⟩,
  ⟨some 119, .fa 2 1 false (.t 10), none⟩,
  ⟨some 120, .ldp 1 false (.t 119), none⟩,
  ⟨some 121, .mv (.t 120), none⟩,
  ⟨some 122, .fa 2 1 false (.t 13), some (121, false)⟩,
  ⟨some 123, .ldp 1 false (.t 122), some (121, false)⟩,
  ⟨some 124, .pick (.t 121) (.k (.bool true)) (.t 123), none⟩,
  ⟨some 125, .bld (.agg ([.list true [], .list true [], .bool false])) [((0, 1), (.t 113)), ((1, 1), (.t 118)), ((2, 1), (.t 124))], none⟩,
  ⟨none, .st 3 (.t 10) (.t 125), none⟩]))))
 (.ops [⟨some 126, .bin .add (.t 102) (.k (.int .i64 1)), none⟩,
  ⟨some 102, .mv (.t 126), none⟩])))))))
 (.seq (.ops [⟨some 127, .ldl 3 true 10, none⟩,
  ⟨none, .st 3 (.t 4) (.t 127), none⟩])
 .ret))) .skip))))))))
 (.seq (.ops [⟨some 128, .mv (.t 0), none⟩,
  ⟨some 129, .fa 5 1 false (.t 3), none⟩,
  ⟨some 130, .ldi 1 false (.t 129), none⟩,
  ⟨some 131, .ix 6 (.t 130) (.k (.int .i64 0)), none⟩,
  ⟨some 132, .ld 6 true (.t 131), none⟩,
  ⟨some 133, .call 1 [(.t 128), (.t 132)], none⟩,
  ⟨some 14, .alv ([.list true [], .list true [], .bool false]), none⟩,
  ⟨none, .st 3 (.t 14) (.t 133), none⟩])
 (.seq (.seq (.ops [⟨some 134, .fa 0 1 false (.t 3), none⟩,
  ⟨some 135, .ldi 1 false (.t 134), none⟩,
  ⟨some 136, .bin .neq (.t 135) (.k (.int .i64 6)), none⟩])
 (.cond (.t 136) (.ops [⟨some 137, .mv (.t 0), none⟩,
  ⟨some 138, .fa 1 1 false (.t 14), none⟩,
  ⟨some 139, .ldp 1 false (.t 138), none⟩,
  ⟨some 140, .fa 0 1 false (.t 14), none⟩,
  ⟨some 141, .ldp 1 false (.t 140), none⟩,
  ⟨some 142, .call 96 [(.t 137), (.t 139), (.t 141)], none⟩]) .skip))
 (.seq (.ops [⟨some 143, .fa 2 1 false (.t 14), none⟩,
  ⟨some 144, .ldp 1 false (.t 143), none⟩,
  ⟨some 145, .mv (.t 144), none⟩,
  ⟨some 146, .fa 0 1 false (.t 3), some (145, false)⟩,
  ⟨some 147, .ldi 1 false (.t 146), some (145, false)⟩,
  ⟨some 148, .bin .neq (.t 147) (.k (.int .i64 5)), some (145, false)⟩,
  ⟨some 149, .pick (.t 145) (.k (.bool true)) (.t 148), none⟩,
  ⟨some 150, .fa 2 1 false (.t 14), none⟩,
  ⟨none, .st 1 (.t 150) (.t 149), none⟩])
 (.seq (.ops [⟨some 151, .ldl 3 true 14, none⟩,
  ⟨none, .st 3 (.t 4) (.t 151), none⟩])
 .ret)))))), [.cell 4 3 true], false⟩
/-- eyot/place.Of -/
def a2 : AFn := ⟨1, (.seq (.ops [⟨some 1, .bim 6 (.t 0), none⟩,
  ⟨some 2, .alv ([.list true [], .list true [], .list true [], .list true [], .bool false]), none⟩,
  ⟨some 3, .mv (.k (.int .i64 0)), none⟩])
 (.seq (.seq (.ops [⟨some 7, .ldi 6 true (.t 1), none⟩,
  ⟨some 8, .call 3 [(.t 7)], none⟩,
  ⟨some 4, .mv (.t 8), none⟩])
 (.seq (.ops [⟨some 9, .mv (.t 4), none⟩,
  ⟨some 10, .bin .neq (.t 9) (.k (.int .i64 0)), none⟩])
 (.cond (.t 10) (.seq (.ops [⟨some 11, .bld (.agg ([.list true [], .list true [], .list true [], .list true [], .bool false])) [], none⟩,
  ⟨some 12, .mv (.t 4), none⟩,
  ⟨none, .st 5 (.t 2) (.t 11), none⟩,
  ⟨some 3, .mv (.t 12), none⟩])
 (.seq (.ops [⟨none, .frz (.ag 0 (.sl .no) (.ag 1 (.sl .no) (.ag 2 (.sl .no) (.ag 3 (.sl (.sl .no)) .no)))) 2, none⟩]) .ret)) .skip)))
 (.seq (.ops [⟨some 5, .aob ([.list true [], .list true [], .list true [], .list true [], .bool false]), none⟩])
 (.seq (.ops [⟨some 13, .ldi 6 true (.t 1), none⟩,
  ⟨some 14, .call 1 [(.t 5), (.t 13)], none⟩,
  ⟨some 6, .alv ([.list true [], .list true [], .bool false]), none⟩,
  ⟨none, .st 3 (.t 6) (.t 14), none⟩])
 (.seq (.seq (.ops [⟨some 15, .fa 0 1 false (.t 5), none⟩,
  ⟨some 16, .ldo 1 false (.t 15), none⟩,
  ⟨some 17, .len (.t 16), none⟩,
  ⟨some 18, .bin .gtr (.t 17) (.k (.int .i64 40)), none⟩])
 (.cond (.t 18) (.seq (.ops [⟨some 19, .bld (.agg ([.list true [], .list true [], .list true [], .list true [], .bool false])) [], none⟩,
  ⟨none, .st 5 (.t 2) (.t 19), none⟩,
  ⟨some 3, .mv (.k (.int .i64 6)), none⟩])
 (.seq (.ops [⟨none, .frz (.ag 0 (.sl .no) (.ag 1 (.sl .no) (.ag 2 (.sl .no) (.ag 3 (.sl (.sl .no)) .no)))) 2, none⟩]) .ret)) .skip))
 (.seq (.dops [⟨some 20, .fa 0 1 false (.t 6), none⟩,
  ⟨some 21, .ldp 1 false (.t 20), none⟩,
  ⟨some 22, .fa 1 1 false (.t 6), none⟩,
  ⟨some 23, .ldp 1 false (.t 22), none⟩,
  ⟨some 24, .fa 2 1 false (.t 6), none⟩,
  ⟨some 25, .ldp 1 false (.t 24), none⟩,
  ⟨some 26, .fa 1 1 false (.t 5), none⟩,
  ⟨none, .sto 1 (.t 26) (.t 21), none⟩,
  ⟨some 27, .fa 2 1 false (.t 5), none⟩,
  ⟨none, .sto 1 (.t 27) (.t 23), none⟩,
  ⟨some 28, .fa 4 1 false (.t 5), none⟩,
  ⟨none, .sto 1 (.t 28) (.t 25), none⟩])
 (.seq (.ops [⟨some 29, .ldo 5 true (.t 5), none⟩,
  ⟨none, .st 5 (.t 2) (.t 29), none⟩,
  ⟨some 3, .mv (.k (.int .i64 0)), none⟩])
 (.seq (.ops [⟨none, .frz (.ag 0 (.sl .no) (.ag 1 (.sl .no) (.ag 2 (.sl .no) (.ag 3 (.sl (.sl .no)) .no)))) 2, none⟩]) .ret)))))))), [.cell 2 5 true, .tmp 3], true⟩
/-- eyot/regex.May -/
def a3 : AFn := ⟨1, (.seq (.ops [⟨some 1, .bim 6 (.t 0), none⟩,
  ⟨some 2, .mv (.k (.int .i64 0)), none⟩])
 (.seq (.seq (.ops [⟨some 5, .ldi 6 true (.t 1), none⟩,
  ⟨some 6, .call 4 [(.t 5)], none⟩,
  ⟨some 7, .un .not (.t 6), none⟩])
 (.cond (.t 7) (.seq (.ops [⟨some 2, .mv (.k (.int .i64 2)), none⟩])
 .ret) .skip))
 (.seq (.seq (.ops [⟨some 9, .ldi 6 true (.t 1), none⟩,
  ⟨some 10, .call 5 [(.t 9)], none⟩,
  ⟨some 8, .mv (.t 10), none⟩,
  ⟨some 11, .ext 0 (.t 8), none⟩,
  ⟨some 12, .ext 1 (.t 8), none⟩,
  ⟨some 3, .mv (.t 11), none⟩,
  ⟨some 4, .mv (.t 12), none⟩])
 (.seq (.ops [⟨some 13, .mv (.t 3), none⟩,
  ⟨some 14, .bin .gtr (.t 13) (.k (.int .i64 40)), none⟩,
  ⟨some 15, .mv (.t 14), none⟩,
  ⟨some 16, .mv (.t 4), some (15, false)⟩,
  ⟨some 17, .bin .gtr (.t 16) (.k (.int .i64 12)), some (15, false)⟩,
  ⟨some 18, .pick (.t 15) (.k (.bool true)) (.t 17), none⟩])
 (.cond (.t 18) (.seq (.ops [⟨some 2, .mv (.k (.int .i64 6)), none⟩])
 .ret) .skip)))
 (.seq (.ops [⟨some 2, .mv (.k (.int .i64 0)), none⟩])
 .ret)))), [.tmp 2], true⟩
/-- eyot/regex.formed -/
def a4 : AFn := ⟨1, (.seq (.ops [⟨some 1, .bim 6 (.t 0), none⟩,
  ⟨some 2, .mv (.k (.bool false)), none⟩])
 (.seq (.block 0 (.seq (.ops [⟨some 6, .fa 0 1 false (.t 1), none⟩,
  ⟨some 7, .ldi 1 false (.t 6), none⟩,
  ⟨some 8, .bin .eql (.t 7) (.k (.int .i64 1)), none⟩,
  ⟨some 5, .mv (.t 8), none⟩])
 (.cond (.t 5) (.seq (.ops [⟨some 9, .fa 5 1 false (.t 1), none⟩,
  ⟨some 10, .ldi 1 false (.t 9), none⟩,
  ⟨some 11, .len (.t 10), none⟩,
  ⟨some 12, .bin .eql (.t 11) (.k (.int .i64 0)), none⟩,
  ⟨some 13, .mv (.t 12), none⟩,
  ⟨some 14, .fa 1 4 true (.t 1), some (13, true)⟩,
  ⟨some 15, .ldi 4 true (.t 14), some (13, true)⟩,
  ⟨some 16, .bld (.agg ([.int .u64 0, .int .u64 0, .int .u64 0, .int .u64 0])) [], some (13, true)⟩,
  ⟨some 17, .eq true (.agg [.i, .i, .i, .i]) (.t 15) (.t 16), some (13, true)⟩,
  ⟨some 18, .pick (.t 13) (.t 17) (.k (.bool false)), none⟩,
  ⟨some 2, .mv (.t 18), none⟩])
 .ret) (.seq (.ops [⟨some 20, .fa 1 4 true (.t 1), none⟩,
  ⟨some 21, .ldi 4 true (.t 20), none⟩,
  ⟨some 22, .bld (.agg ([.int .u64 0, .int .u64 0, .int .u64 0, .int .u64 0])) [], none⟩,
  ⟨some 23, .eq true (.agg [.i, .i, .i, .i]) (.t 21) (.t 22), none⟩,
  ⟨some 19, .mv (.t 23), none⟩])
 (.cond (.t 19) (.seq (.ops [⟨some 2, .mv (.k (.bool false)), none⟩])
 .ret) (.seq (.seq (.ops [⟨some 25, .fa 0 1 false (.t 1), none⟩,
  ⟨some 26, .ldi 1 false (.t 25), none⟩,
  ⟨some 27, .bin .eql (.t 26) (.k (.int .i64 2)), none⟩,
  ⟨some 24, .mv (.t 27), none⟩])
 (.cond (.t 24) .skip (.ops [⟨some 28, .fa 0 1 false (.t 1), none⟩,
  ⟨some 29, .ldi 1 false (.t 28), none⟩,
  ⟨some 30, .bin .eql (.t 29) (.k (.int .i64 3)), none⟩,
  ⟨some 24, .mv (.t 30), none⟩])))
 (.cond (.t 24) (.seq (.ops [⟨some 31, .fa 5 1 false (.t 1), none⟩,
  ⟨some 32, .ldi 1 false (.t 31), none⟩,
  ⟨some 33, .len (.t 32), none⟩,
  ⟨some 34, .bin .lss (.t 33) (.k (.int .i64 2)), none⟩])
 (.cond (.t 34) (.seq (.ops [⟨some 2, .mv (.k (.bool false)), none⟩])
 .ret) .skip)) (.seq (.ops [⟨some 36, .fa 0 1 false (.t 1), none⟩,
  ⟨some 37, .ldi 1 false (.t 36), none⟩,
  ⟨some 38, .call 97 [(.t 37)], none⟩,
  ⟨some 35, .mv (.t 38), none⟩])
 (.cond (.t 35) (.seq (.ops [⟨some 39, .fa 5 1 false (.t 1), none⟩,
  ⟨some 40, .ldi 1 false (.t 39), none⟩,
  ⟨some 41, .len (.t 40), none⟩,
  ⟨some 42, .bin .neq (.t 41) (.k (.int .i64 1)), none⟩,
  ⟨some 43, .mv (.t 42), none⟩,
  ⟨some 44, .fa 5 1 false (.t 1), some (43, false)⟩,
  ⟨some 45, .ldi 1 false (.t 44), some (43, false)⟩,
  ⟨some 46, .ix 6 (.t 45) (.k (.int .i64 0)), some (43, false)⟩,
  ⟨some 47, .fa 0 1 false (.t 46), some (43, false)⟩,
  ⟨some 48, .ld 1 false (.t 47), some (43, false)⟩,
  ⟨some 49, .call 97 [(.t 48)], some (43, false)⟩,
  ⟨some 50, .pick (.t 43) (.k (.bool true)) (.t 49), none⟩])
 (.cond (.t 50) (.seq (.ops [⟨some 2, .mv (.k (.bool false)), none⟩])
 .ret) .skip)) (.seq (.ops [⟨some 2, .mv (.k (.bool false)), none⟩])
 .ret))))))))))
 (.seq (.seq (.ops [⟨some 51, .fa 5 1 false (.t 1), none⟩,
  ⟨some 52, .ldi 1 false (.t 51), none⟩,
  ⟨some 53, .len (.t 52), none⟩,
  ⟨some 54, .mv (.k (.int .i64 0)), none⟩])
 (.block 1 (.loop [1, 52, 53, 54, 64, 65, 66] (.seq (.ops [⟨some 55, .bin .lss (.t 54) (.t 53), none⟩])
 (.seq (.cond (.t 55) .skip (.exit 1))
 (.seq (.block 2 (.seq (.ops [⟨some 56, .ix 6 (.t 52) (.t 54), none⟩,
  ⟨some 57, .ld 6 true (.t 56), none⟩,
  ⟨some 4, .alv ([.int .i64 0, .int .u64 0, .int .u64 0, .int .u64 0, .int .u64 0, .list true []]), none⟩,
  ⟨none, .st 6 (.t 4) (.t 57), none⟩])
 (.seq (.ops [⟨some 58, .fa 0 1 false (.t 4), none⟩,
  ⟨some 59, .ldp 1 false (.t 58), none⟩,
  ⟨some 60, .fa 0 1 false (.t 1), none⟩,
  ⟨some 61, .ldi 1 false (.t 60), none⟩,
  ⟨some 62, .bin .eql (.t 59) (.t 61), none⟩,
  ⟨some 63, .mv (.t 62), none⟩,
  ⟨some 64, .ldl 6 true 4, some (63, false)⟩,
  ⟨some 65, .call 4 [(.t 64)], some (63, false)⟩,
  ⟨some 66, .un .not (.t 65), some (63, false)⟩,
  ⟨some 67, .pick (.t 63) (.k (.bool true)) (.t 66), none⟩])
 (.cond (.t 67) (.seq (.ops [⟨some 2, .mv (.k (.bool false)), none⟩])
 .ret) .skip))))
 (.ops [⟨some 68, .bin .add (.t 54) (.k (.int .i64 1)), none⟩,
  ⟨some 54, .mv (.t 68), none⟩])))))))
 (.seq (.ops [⟨some 2, .mv (.k (.bool true)), none⟩])
 .ret)))), [.tmp 2], true⟩
/-- eyot/regex.size -/
def a5 : AFn := ⟨1, (.seq (.ops [⟨some 1, .bim 6 (.t 0), none⟩,
  ⟨some 2, .mv (.k (.int .i64 0)), none⟩,
  ⟨some 3, .mv (.k (.int .i64 0)), none⟩])
 (.seq (.seq (.ops [⟨some 8, .fa 5 1 false (.t 1), none⟩,
  ⟨some 9, .ldi 1 false (.t 8), none⟩,
  ⟨some 10, .len (.t 9), none⟩,
  ⟨some 11, .mv (.k (.int .i64 0)), none⟩])
 (.block 0 (.loop [2, 3, 9, 10, 11] (.seq (.ops [⟨some 12, .bin .lss (.t 11) (.t 10), none⟩])
 (.seq (.cond (.t 12) .skip (.exit 0))
 (.seq (.block 1 (.seq (.ops [⟨some 13, .ix 6 (.t 9) (.t 11), none⟩,
  ⟨some 14, .ld 6 true (.t 13), none⟩,
  ⟨some 5, .alv ([.int .i64 0, .int .u64 0, .int .u64 0, .int .u64 0, .int .u64 0, .list true []]), none⟩,
  ⟨none, .st 6 (.t 5) (.t 14), none⟩])
 (.seq (.ops [⟨some 16, .ldl 6 true 5, none⟩,
  ⟨some 17, .call 5 [(.t 16)], none⟩,
  ⟨some 15, .mv (.t 17), none⟩,
  ⟨some 18, .ext 0 (.t 15), none⟩,
  ⟨some 19, .ext 1 (.t 15), none⟩,
  ⟨some 6, .mv (.t 18), none⟩,
  ⟨some 7, .mv (.t 19), none⟩])
 (.ops [⟨some 20, .mv (.t 2), none⟩,
  ⟨some 21, .mv (.t 6), none⟩,
  ⟨some 22, .bin .add (.t 20) (.t 21), none⟩,
  ⟨some 23, .mv (.t 3), none⟩,
  ⟨some 24, .mv (.t 7), none⟩,
  ⟨some 25, .mnmx true (.t 23) (.t 24), none⟩,
  ⟨some 2, .mv (.t 22), none⟩,
  ⟨some 3, .mv (.t 25), none⟩]))))
 (.ops [⟨some 26, .bin .add (.t 11) (.k (.int .i64 1)), none⟩,
  ⟨some 11, .mv (.t 26), none⟩])))))))
 (.seq (.ops [⟨some 27, .mv (.t 2), none⟩,
  ⟨some 28, .bin .add (.t 27) (.k (.int .i64 1)), none⟩,
  ⟨some 29, .mv (.t 3), none⟩,
  ⟨some 30, .bin .add (.t 29) (.k (.int .i64 1)), none⟩,
  ⟨some 2, .mv (.t 28), none⟩,
  ⟨some 3, .mv (.t 30), none⟩])
 .ret))), [.tmp 2, .tmp 3], true⟩
/-- (*eyot/class.reader).next -/
def a6 : AFn := ⟨1, (.seq (.ops [⟨some 2, .mv (.k (.int .u8 0)), none⟩])
 (.seq (.seq (.dops [⟨some 3, .mv (.t 0), none⟩,
  ⟨some 4, .nilc (.t 3), none⟩,
  ⟨some 5, .fa 1 1 false (.t 4), none⟩,
  ⟨some 6, .ldo 1 false (.t 5), none⟩,
  ⟨some 7, .mv (.t 0), none⟩,
  ⟨some 8, .nilc (.t 7), none⟩,
  ⟨some 9, .fa 0 1 false (.t 8), none⟩,
  ⟨some 10, .ldo 1 false (.t 9), none⟩,
  ⟨some 11, .lns (.t 10), none⟩,
  ⟨some 12, .bin .lss (.t 6) (.t 11), none⟩])
 (.cond (.t 12) (.seq (.dops [⟨some 13, .mv (.t 0), none⟩,
  ⟨some 14, .nilc (.t 13), none⟩,
  ⟨some 15, .fa 0 1 false (.t 14), none⟩,
  ⟨some 16, .ldo 1 false (.t 15), none⟩,
  ⟨some 17, .mv (.t 0), none⟩,
  ⟨some 18, .nilc (.t 17), none⟩,
  ⟨some 19, .fa 1 1 false (.t 18), none⟩,
  ⟨some 20, .ldo 1 false (.t 19), none⟩,
  ⟨some 21, .ixs (.t 16) (.t 20), none⟩,
  ⟨some 2, .mv (.t 21), none⟩])
 .ret) .skip))
 (.seq (.ops [⟨some 2, .mv (.k (.int .u8 0)), none⟩])
 .ret))), [.tmp 2], true⟩
/-- (*eyot/class.reader).take -/
def a7 : AFn := ⟨1, (.seq (.ops [⟨some 2, .mv (.k (.int .u8 0)), none⟩])
 (.seq (.seq (.dops [⟨some 3, .mv (.t 0), none⟩,
  ⟨some 4, .nilc (.t 3), none⟩,
  ⟨some 5, .fa 1 1 false (.t 4), none⟩,
  ⟨some 6, .ldo 1 false (.t 5), none⟩,
  ⟨some 7, .mv (.t 0), none⟩,
  ⟨some 8, .nilc (.t 7), none⟩,
  ⟨some 9, .fa 0 1 false (.t 8), none⟩,
  ⟨some 10, .ldo 1 false (.t 9), none⟩,
  ⟨some 11, .lns (.t 10), none⟩,
  ⟨some 12, .bin .geq (.t 6) (.t 11), none⟩])
 (.cond (.t 12) (.ops [⟨some 13, .bld (.agg ([])) [], none⟩,
  ⟨some 14, .mkif 0 (.t 13), none⟩,
  ⟨none, .pan (.t 14), none⟩]) .skip))
 (.seq (.ops [⟨some 15, .mv (.t 0), none⟩,
  ⟨some 16, .nilc (.t 15), none⟩,
  ⟨some 17, .fa 1 1 false (.t 16), none⟩,
  ⟨some 18, .ld 1 false (.t 17), none⟩,
  ⟨some 19, .bin .add (.t 18) (.k (.int .i64 1)), none⟩,
  ⟨some 20, .nilc (.t 15), none⟩,
  ⟨some 21, .fa 1 1 false (.t 20), none⟩,
  ⟨none, .st 1 (.t 21) (.t 19), none⟩])
 (.seq (.dops [⟨some 22, .mv (.t 0), none⟩,
  ⟨some 23, .nilc (.t 22), none⟩,
  ⟨some 24, .fa 0 1 false (.t 23), none⟩,
  ⟨some 25, .ldo 1 false (.t 24), none⟩,
  ⟨some 26, .mv (.t 0), none⟩,
  ⟨some 27, .nilc (.t 26), none⟩,
  ⟨some 28, .fa 1 1 false (.t 27), none⟩,
  ⟨some 29, .ldo 1 false (.t 28), none⟩,
  ⟨some 30, .bin .sub (.t 29) (.k (.int .i64 1)), none⟩,
  ⟨some 31, .ixs (.t 25) (.t 30), none⟩,
  ⟨some 2, .mv (.t 31), none⟩])
 .ret)))), [.tmp 2], false⟩
/-- eyot/class.Not -/
def a8 : AFn := ⟨1, (.seq (.ops [⟨some 1, .bim 4 (.t 0), none⟩,
  ⟨some 2, .alv ([.int .u64 0, .int .u64 0, .int .u64 0, .int .u64 0]), none⟩])
 (.seq (.ops [⟨some 3, .ldi 4 true (.t 1), none⟩,
  ⟨some 4, .ldi 4 true (.t 1), none⟩,
  ⟨some 5, .call 38 [(.t 3), (.t 4), (.k (.fn 40 []))], none⟩,
  ⟨none, .st 4 (.t 2) (.t 5), none⟩])
 .ret)), [.cell 2 4 true], true⟩
/-- (*eyot/class.reader).sign -/
def a9 : AFn := ⟨1, (.seq (.ops [⟨some 2, .mv (.k (.int .u8 0)), none⟩])
 (.seq (.ops [⟨some 5, .mv (.t 0), none⟩,
  ⟨some 6, .call 7 [(.t 5)], none⟩,
  ⟨some 3, .mv (.t 6), none⟩])
 (.seq (.seq (.ops [⟨some 7, .mv (.t 3), none⟩,
  ⟨some 8, .bin .neq (.t 7) (.k (.int .u8 92)), none⟩])
 (.cond (.t 8) (.seq (.seq (.ops [⟨some 9, .mv (.t 3), none⟩,
  ⟨some 10, .bin .lss (.t 9) (.k (.int .u8 33)), none⟩,
  ⟨some 11, .mv (.t 10), none⟩,
  ⟨some 12, .mv (.t 3), some (11, false)⟩,
  ⟨some 13, .bin .gtr (.t 12) (.k (.int .u8 126)), some (11, false)⟩,
  ⟨some 14, .pick (.t 11) (.k (.bool true)) (.t 13), none⟩,
  ⟨some 15, .mv (.t 14), none⟩,
  ⟨some 16, .mv (.t 3), some (15, false)⟩,
  ⟨some 17, .call 12 [(.k (.str [92, 124, 42, 43, 63, 40, 41, 91, 93, 46, 94, 45])), (.t 16)], some (15, false)⟩,
  ⟨some 18, .bin .geq (.t 17) (.k (.int .i64 0)), some (15, false)⟩,
  ⟨some 19, .pick (.t 15) (.k (.bool true)) (.t 18), none⟩])
 (.cond (.t 19) (.ops [⟨some 20, .bld (.agg ([])) [], none⟩,
  ⟨some 21, .mkif 0 (.t 20), none⟩,
  ⟨none, .pan (.t 21), none⟩]) .skip))
 (.seq (.ops [⟨some 22, .mv (.t 3), none⟩,
  ⟨some 2, .mv (.t 22), none⟩])
 .ret)) .skip))
 (.seq (.ops [⟨some 23, .mv (.t 0), none⟩,
  ⟨some 24, .call 7 [(.t 23)], none⟩,
  ⟨some 3, .mv (.t 24), none⟩])
 (.seq (.seq (.ops [⟨some 25, .mv (.t 3), none⟩,
  ⟨some 26, .bin .eql (.t 25) (.k (.int .u8 120)), none⟩])
 (.cond (.t 26) (.seq (.ops [⟨some 27, .mv (.t 0), none⟩,
  ⟨some 28, .call 13 [(.t 27)], none⟩,
  ⟨some 4, .mv (.t 28), none⟩])
 (.seq (.ops [⟨some 29, .mv (.t 4), none⟩,
  ⟨some 30, .bin .shl (.t 29) (.k (.int .u64 4)), none⟩,
  ⟨some 31, .mv (.t 0), none⟩,
  ⟨some 32, .call 13 [(.t 31)], none⟩,
  ⟨some 33, .bin .or (.t 30) (.t 32), none⟩,
  ⟨some 2, .mv (.t 33), none⟩])
 .ret)) .skip))
 (.seq (.seq (.ops [⟨some 34, .mv (.t 3), none⟩,
  ⟨some 35, .call 12 [(.k (.str [92, 124, 42, 43, 63, 40, 41, 91, 93, 46, 94, 45])), (.t 34)], none⟩,
  ⟨some 36, .bin .lss (.t 35) (.k (.int .i64 0)), none⟩])
 (.cond (.t 36) (.ops [⟨some 37, .bld (.agg ([])) [], none⟩,
  ⟨some 38, .mkif 0 (.t 37), none⟩,
  ⟨none, .pan (.t 38), none⟩]) .skip))
 (.seq (.ops [⟨some 39, .mv (.t 3), none⟩,
  ⟨some 2, .mv (.t 39), none⟩])
 .ret))))))), [.tmp 2], false⟩
/-- eyot/class.run -/
def a10 : AFn := ⟨2, (.seq (.ops [⟨some 4, .alv ([.int .u64 0, .int .u64 0, .int .u64 0, .int .u64 0]), none⟩])
 (.seq (.ops [⟨some 5, .mv (.k (.list true [])), none⟩])
 (.seq (.seq (.ops [⟨some 7, .mv (.t 0), none⟩,
  ⟨some 8, .cvi .i64 (.t 7), none⟩,
  ⟨some 6, .mv (.t 8), none⟩])
 (.block 0 (.loop [1, 4, 5, 6] (.seq (.seq (.ops [⟨some 9, .mv (.t 6), none⟩,
  ⟨some 10, .mv (.t 1), none⟩,
  ⟨some 11, .cvi .i64 (.t 10), none⟩,
  ⟨some 12, .bin .leq (.t 9) (.t 11), none⟩])
 (.cond (.t 12) .skip (.exit 0)))
 (.seq (.block 1 (.ops [⟨some 15, .mv (.t 5), none⟩,
  ⟨some 16, .mv (.t 6), none⟩,
  ⟨some 17, .cvi .u8 (.t 16), none⟩,
  ⟨some 18, .mkl (.int .u8 0) 1 [(0, (.t 17))], none⟩,
  ⟨some 19, .app 1 (.t 15) (.t 18), none⟩,
  ⟨some 5, .mv (.t 19), none⟩]))
 (.ops [⟨some 13, .mv (.t 6), none⟩,
  ⟨some 14, .bin .add (.t 13) (.k (.int .i64 1)), none⟩,
  ⟨some 6, .mv (.t 14), none⟩]))))))
 (.seq (.ops [⟨some 20, .mv (.t 5), none⟩,
  ⟨some 21, .call 41 [(.t 20)], none⟩,
  ⟨none, .st 4 (.t 4) (.t 21), none⟩])
 .ret)))), [.cell 4 4 true], true⟩
/-- (*eyot/class.reader).class -/
def a11 : AFn := ⟨1, (.seq (.ops [⟨some 2, .alv ([.int .u64 0, .int .u64 0, .int .u64 0, .int .u64 0]), none⟩])
 (.seq (.seq (.ops [⟨some 6, .mv (.t 0), none⟩,
  ⟨some 7, .call 6 [(.t 6)], none⟩])
 (.block 0 (.seq (.ops [⟨some 14, .bin .eql (.t 7) (.k (.int .u8 46)), none⟩,
  ⟨some 13, .mv (.t 14), none⟩])
 (.cond (.t 13) (.seq (.ops [⟨some 15, .mv (.t 0), none⟩,
  ⟨some 16, .call 7 [(.t 15)], none⟩])
 (.seq (.ops [⟨some 17, .bld (.agg ([.int .u64 0, .int .u64 0, .int .u64 0, .int .u64 0])) [], none⟩,
  ⟨some 18, .call 8 [(.t 17)], none⟩,
  ⟨none, .st 4 (.t 2) (.t 18), none⟩])
 .ret)) (.seq (.ops [⟨some 20, .bin .eql (.t 7) (.k (.int .u8 91)), none⟩,
  ⟨some 19, .mv (.t 20), none⟩])
 (.cond (.t 19) .skip (.seq (.ops [⟨some 8, .mv (.t 0), none⟩,
  ⟨some 9, .call 9 [(.t 8)], none⟩,
  ⟨some 3, .mv (.t 9), none⟩])
 (.seq (.ops [⟨some 10, .mv (.t 3), none⟩,
  ⟨some 11, .mv (.t 3), none⟩,
  ⟨some 12, .call 10 [(.t 10), (.t 11)], none⟩,
  ⟨none, .st 4 (.t 2) (.t 12), none⟩])
 .ret))))))))
 (.seq (.ops [⟨some 21, .mv (.t 0), none⟩,
  ⟨some 22, .call 7 [(.t 21)], none⟩])
 (.seq (.ops [⟨some 23, .mv (.t 0), none⟩,
  ⟨some 24, .call 6 [(.t 23)], none⟩,
  ⟨some 25, .bin .eql (.t 24) (.k (.int .u8 94)), none⟩,
  ⟨some 4, .mv (.t 25), none⟩])
 (.seq (.seq (.ops [⟨some 26, .mv (.t 4), none⟩])
 (.cond (.t 26) (.ops [⟨some 27, .mv (.t 0), none⟩,
  ⟨some 28, .call 7 [(.t 27)], none⟩]) .skip))
 (.seq (.ops [⟨some 29, .mv (.t 0), none⟩,
  ⟨some 30, .call 98 [(.t 29)], none⟩,
  ⟨some 5, .alv ([.int .u64 0, .int .u64 0, .int .u64 0, .int .u64 0]), none⟩,
  ⟨none, .st 4 (.t 5) (.t 30), none⟩])
 (.seq (.block 1 (.loop [0, 2, 4, 5] (.seq (.seq (.ops [⟨some 31, .mv (.t 0), none⟩,
  ⟨some 32, .call 6 [(.t 31)], none⟩,
  ⟨some 33, .bin .neq (.t 32) (.k (.int .u8 93)), none⟩])
 (.cond (.t 33) .skip (.exit 1)))
 (.block 2 (.dops [⟨some 34, .ldl 4 true 5, none⟩,
  ⟨some 35, .mv (.t 0), none⟩,
  ⟨some 36, .call 98 [(.t 35)], none⟩,
  ⟨some 37, .call 99 [(.t 34), (.t 36)], none⟩,
  ⟨none, .st 4 (.t 5) (.t 37), none⟩])))))
 (.seq (.ops [⟨some 38, .mv (.t 0), none⟩,
  ⟨some 39, .call 7 [(.t 38)], none⟩])
 (.seq (.seq (.ops [⟨some 40, .mv (.t 4), none⟩])
 (.cond (.t 40) (.ops [⟨some 41, .ldl 4 true 5, none⟩,
  ⟨some 42, .call 8 [(.t 41)], none⟩,
  ⟨none, .st 4 (.t 5) (.t 42), none⟩]) .skip))
 (.seq (.ops [⟨some 43, .ldl 4 true 5, none⟩,
  ⟨none, .st 4 (.t 2) (.t 43), none⟩])
 .ret)))))))))), [.cell 2 4 true], false⟩
/-- strings.IndexByte -/
def a12 : AFn := ⟨2, (.seq (.ops [⟨some 4, .mv (.k (.int .i64 0)), none⟩])
 (.seq (.ops [⟨some 5, .mv (.t 0), none⟩,
  ⟨some 6, .mv (.t 1), none⟩,
  ⟨some 7, .call 75 [(.t 5), (.t 6)], none⟩,
  ⟨some 4, .mv (.t 7), none⟩])
 .ret)), [.tmp 4], true⟩
/-- (*eyot/class.reader).digit -/
def a13 : AFn := ⟨1, (.seq (.ops [⟨some 2, .mv (.k (.int .u8 0)), none⟩])
 (.seq (.ops [⟨some 4, .mv (.t 0), none⟩,
  ⟨some 5, .call 7 [(.t 4)], none⟩,
  ⟨some 6, .call 12 [(.k (.str [48, 49, 50, 51, 52, 53, 54, 55, 56, 57, 97, 98, 99, 100, 101, 102])), (.t 5)], none⟩,
  ⟨some 3, .mv (.t 6), none⟩])
 (.seq (.seq (.ops [⟨some 7, .mv (.t 3), none⟩,
  ⟨some 8, .bin .lss (.t 7) (.k (.int .i64 0)), none⟩])
 (.cond (.t 8) (.ops [⟨some 9, .bld (.agg ([])) [], none⟩,
  ⟨some 10, .mkif 0 (.t 9), none⟩,
  ⟨none, .pan (.t 10), none⟩]) .skip))
 (.seq (.ops [⟨some 11, .mv (.t 3), none⟩,
  ⟨some 12, .cvi .u8 (.t 11), none⟩,
  ⟨some 2, .mv (.t 12), none⟩])
 .ret)))), [.tmp 2], false⟩
/-- eyot/gtext.must -/
def a14 : AFn := ⟨1, (.seq (.ops [⟨some 2, .mv (.t 0), none⟩,
  ⟨some 3, .un .not (.t 2), none⟩])
 (.cond (.t 3) (.ops [⟨some 4, .bld (.agg ([])) [], none⟩,
  ⟨some 5, .mkif 1 (.t 4), none⟩,
  ⟨none, .pan (.t 5), none⟩]) .skip)), [], true⟩
/-- strconv.Atoi -/
def a15 : AFn := ⟨1, (.seq (.ops [⟨some 2, .mv (.k (.int .i64 0)), none⟩,
  ⟨some 3, .mv (.k (.niliface)), none⟩])
 (.seq (.ops [⟨some 7, .mv (.t 0), none⟩,
  ⟨some 8, .call 71 [(.t 7)], none⟩,
  ⟨some 6, .mv (.t 8), none⟩,
  ⟨some 9, .ext 0 (.t 6), none⟩,
  ⟨some 10, .ext 1 (.t 6), none⟩,
  ⟨some 4, .mv (.t 9), none⟩,
  ⟨some 5, .mv (.t 10), none⟩])
 (.seq (.seq (.ops [⟨some 11, .mv (.t 5), none⟩,
  ⟨some 12, .eq true .iface (.t 11) (.k (.niliface)), none⟩])
 (.cond (.t 12) (.seq (.ops [⟨some 13, .mv (.t 4), none⟩,
  ⟨some 14, .mv (.t 0), none⟩,
  ⟨some 15, .mv (.t 5), none⟩,
  ⟨some 16, .call 113 [(.k (.str [65, 116, 111, 105])), (.t 14), (.k (.int .i64 0)), (.k (.int .i64 0)), (.t 15)], none⟩,
  ⟨some 2, .mv (.t 13), none⟩,
  ⟨some 3, .mv (.t 16), none⟩])
 .ret) .skip))
 (.seq (.ops [⟨some 17, .mv (.t 4), none⟩,
  ⟨some 2, .mv (.t 17), none⟩,
  ⟨some 3, .mv (.k (.niliface)), none⟩])
 .ret)))), [.tmp 2, .tmp 3], false⟩
/-- (*eyot/gtext.reader).most -/
def a16 : AFn := ⟨2, (.seq (.ops [⟨some 6, .mv (.t 1), none⟩,
  ⟨some 7, .len (.t 6), none⟩,
  ⟨some 8, .bin .eql (.t 7) (.k (.int .i64 2)), none⟩,
  ⟨some 9, .mv (.t 8), none⟩,
  ⟨some 10, .mv (.t 1), some (9, true)⟩,
  ⟨some 11, .ix 1 (.t 10) (.k (.int .i64 1)), some (9, true)⟩,
  ⟨some 12, .ld 1 false (.t 11), some (9, true)⟩,
  ⟨some 13, .lns (.t 12), some (9, true)⟩,
  ⟨some 14, .bin .geq (.t 13) (.k (.int .i64 1)), some (9, true)⟩,
  ⟨some 15, .pick (.t 9) (.t 14) (.k (.bool false)), none⟩,
  ⟨some 16, .mv (.t 15), none⟩,
  ⟨some 17, .mv (.t 1), some (16, true)⟩,
  ⟨some 18, .ix 1 (.t 17) (.k (.int .i64 1)), some (16, true)⟩,
  ⟨some 19, .ld 1 false (.t 18), some (16, true)⟩,
  ⟨some 20, .lns (.t 19), some (16, true)⟩,
  ⟨some 21, .bin .leq (.t 20) (.k (.int .i64 9)), some (16, true)⟩,
  ⟨some 22, .pick (.t 16) (.t 21) (.k (.bool false)), none⟩,
  ⟨some 23, .call 14 [(.t 22)], none⟩])
 (.seq (.seq (.ops [⟨some 24, .mv (.t 1), none⟩,
  ⟨some 25, .ix 1 (.t 24) (.k (.int .i64 1)), none⟩,
  ⟨some 26, .ld 1 false (.t 25), none⟩,
  ⟨some 27, .cvs (.t 26), none⟩,
  ⟨some 28, .len (.t 27), none⟩,
  ⟨some 29, .mv (.k (.int .i64 0)), none⟩])
 (.block 0 (.loop [0, 1, 27, 28, 29, 36, 37] (.seq (.ops [⟨some 30, .bin .lss (.t 29) (.t 28), none⟩])
 (.seq (.cond (.t 30) .skip (.exit 0))
 (.seq (.block 1 (.seq (.ops [⟨some 31, .ix 1 (.t 27) (.t 29), none⟩,
  ⟨some 32, .ld 1 false (.t 31), none⟩,
  ⟨some 5, .mv (.t 32), none⟩])
 (.ops [⟨some 33, .mv (.t 5), none⟩,
  ⟨some 34, .bin .geq (.t 33) (.k (.int .u8 48)), none⟩,
  ⟨some 35, .mv (.t 34), none⟩,
  ⟨some 36, .mv (.t 5), some (35, true)⟩,
  ⟨some 37, .bin .leq (.t 36) (.k (.int .u8 57)), some (35, true)⟩,
  ⟨some 38, .pick (.t 35) (.t 37) (.k (.bool false)), none⟩,
  ⟨some 39, .call 14 [(.t 38)], none⟩])))
 (.ops [⟨some 40, .bin .add (.t 29) (.k (.int .i64 1)), none⟩,
  ⟨some 29, .mv (.t 40), none⟩])))))))
 (.ops [⟨some 42, .mv (.t 0), none⟩,
  ⟨some 43, .mv (.t 1), none⟩,
  ⟨some 44, .ix 1 (.t 43) (.k (.int .i64 1)), none⟩,
  ⟨some 45, .ld 1 false (.t 44), none⟩,
  ⟨some 46, .call 15 [(.t 45)], none⟩,
  ⟨some 41, .mv (.t 46), none⟩,
  ⟨some 47, .ext 0 (.t 41), none⟩,
  ⟨some 48, .ext 1 (.t 41), none⟩,
  ⟨some 49, .nilc (.t 42), none⟩,
  ⟨some 50, .fa 0 7 true (.t 49), none⟩,
  ⟨some 51, .fa 6 1 false (.t 50), none⟩,
  ⟨none, .st 1 (.t 51) (.t 47), none⟩]))), [], false⟩
/-- eyot/gtext.left -/
def a17 : AFn := ⟨1, (.seq (.ops [⟨some 2, .mv (.k (.str [])), none⟩,
  ⟨some 3, .mv (.k (.bool false)), none⟩])
 (.seq (.seq (.ops [⟨some 4, .mv (.t 0), none⟩,
  ⟨some 5, .len (.t 4), none⟩,
  ⟨some 6, .bin .lss (.t 5) (.k (.int .i64 3)), none⟩,
  ⟨some 7, .mv (.t 6), none⟩,
  ⟨some 8, .mv (.t 0), some (7, false)⟩,
  ⟨some 9, .ix 1 (.t 8) (.k (.int .i64 0)), some (7, false)⟩,
  ⟨some 10, .ld 1 false (.t 9), some (7, false)⟩,
  ⟨some 11, .bin .neq (.t 10) (.k (.str [114, 117, 108, 101])), some (7, false)⟩,
  ⟨some 12, .pick (.t 7) (.k (.bool true)) (.t 11), none⟩,
  ⟨some 13, .mv (.t 12), none⟩,
  ⟨some 14, .mv (.t 0), some (13, false)⟩,
  ⟨some 15, .ix 1 (.t 14) (.k (.int .i64 2)), some (13, false)⟩,
  ⟨some 16, .ld 1 false (.t 15), some (13, false)⟩,
  ⟨some 17, .bin .neq (.t 16) (.k (.str [61])), some (13, false)⟩,
  ⟨some 18, .pick (.t 13) (.k (.bool true)) (.t 17), none⟩,
  ⟨some 19, .mv (.t 18), none⟩,
  ⟨some 20, .mv (.t 0), some (19, false)⟩,
  ⟨some 21, .ix 1 (.t 20) (.k (.int .i64 1)), some (19, false)⟩,
  ⟨some 22, .ld 1 false (.t 21), some (19, false)⟩,
  ⟨some 23, .call 48 [(.t 22)], some (19, false)⟩,
  ⟨some 24, .un .not (.t 23), some (19, false)⟩,
  ⟨some 25, .pick (.t 19) (.k (.bool true)) (.t 24), none⟩])
 (.cond (.t 25) (.seq (.ops [⟨some 2, .mv (.k (.str [])), none⟩,
  ⟨some 3, .mv (.k (.bool false)), none⟩])
 .ret) .skip))
 (.seq (.ops [⟨some 26, .mv (.t 0), none⟩,
  ⟨some 27, .ix 1 (.t 26) (.k (.int .i64 1)), none⟩,
  ⟨some 28, .ld 1 false (.t 27), none⟩,
  ⟨some 2, .mv (.t 28), none⟩,
  ⟨some 3, .mv (.k (.bool true)), none⟩])
 .ret))), [.tmp 2, .tmp 3], true⟩
/-- slices.Index[[]string,string] -/
def a18 : AFn := ⟨2, (.seq (.ops [⟨some 4, .mv (.k (.int .i64 0)), none⟩])
 (.seq (.seq (.ops [⟨some 6, .mv (.t 0), none⟩,
  ⟨some 7, .len (.t 6), none⟩,
  ⟨some 8, .mv (.k (.int .i64 0)), none⟩])
 (.block 0 (.loop [0, 1, 7, 8] (.seq (.ops [⟨some 9, .bin .lss (.t 8) (.t 7), none⟩])
 (.seq (.cond (.t 9) .skip (.exit 0))
 (.seq (.block 1 (.seq (.ops [⟨some 10, .mv (.t 8), none⟩,
  ⟨some 5, .mv (.t 10), none⟩])
 (.seq (.ops [⟨some 11, .mv (.t 1), none⟩,
  ⟨some 12, .mv (.t 0), none⟩,
  ⟨some 13, .mv (.t 5), none⟩,
  ⟨some 14, .ix 1 (.t 12) (.t 13), none⟩,
  ⟨some 15, .ld 1 false (.t 14), none⟩,
  ⟨some 16, .bin .eql (.t 11) (.t 15), none⟩])
 (.cond (.t 16) (.seq (.ops [⟨some 17, .mv (.t 5), none⟩,
  ⟨some 4, .mv (.t 17), none⟩])
 .ret) .skip))))
 (.ops [⟨some 18, .bin .add (.t 8) (.k (.int .i64 1)), none⟩,
  ⟨some 8, .mv (.t 18), none⟩])))))))
 (.seq (.ops [⟨some 4, .mv (.k (.int .i64 (-1))), none⟩])
 .ret))), [.tmp 4], true⟩
/-- eyot/gram.Scope -/
def a19 : AFn := ⟨2, (.seq (.ops [⟨some 2, .bim 7 (.t 0), none⟩,
  ⟨some 3, .bob 1 (.t 1), none⟩,
  ⟨some 4, .mv (.k (.int .i64 0)), none⟩])
 (.seq (.ops [⟨some 5, .fa 2 1 false (.t 2), none⟩,
  ⟨some 6, .ldi 1 false (.t 5), none⟩,
  ⟨some 7, .mkfn 49 [(.t 3)], none⟩,
  ⟨some 8, .call 50 [(.t 6), (.t 7)], none⟩,
  ⟨some 4, .mv (.t 8), none⟩])
 .ret)), [.tmp 4], true⟩
/-- (*eyot/gtext.reader).symbol -/
def a20 : AFn := ⟨2, (.seq (.ops [⟨some 4, .mv (.k (.int .i64 0)), none⟩])
 (.seq (.seq (.ops [⟨some 7, .mv (.t 0), none⟩,
  ⟨some 8, .nilc (.t 7), none⟩,
  ⟨some 9, .fa 0 7 true (.t 8), none⟩,
  ⟨some 10, .ld 7 true (.t 9), none⟩,
  ⟨some 11, .mv (.t 1), none⟩,
  ⟨some 12, .call 25 [(.t 10), (.t 11)], none⟩,
  ⟨some 5, .mv (.t 12), none⟩])
 (.seq (.ops [⟨some 13, .mv (.t 5), none⟩,
  ⟨some 14, .bin .geq (.t 13) (.k (.int .i64 0)), none⟩])
 (.cond (.t 14) (.seq (.ops [⟨some 15, .mv (.t 5), none⟩,
  ⟨some 16, .bin .sub (.k (.int .i64 (-1))) (.t 15), none⟩,
  ⟨some 4, .mv (.t 16), none⟩])
 .ret) .skip)))
 (.seq (.ops [⟨some 17, .mv (.t 0), none⟩,
  ⟨some 18, .nilc (.t 17), none⟩,
  ⟨some 19, .fa 7 1 false (.t 18), none⟩,
  ⟨some 20, .ld 1 false (.t 19), none⟩,
  ⟨some 21, .mv (.t 1), none⟩,
  ⟨some 22, .call 18 [(.t 20), (.t 21)], none⟩,
  ⟨some 6, .mv (.t 22), none⟩])
 (.seq (.ops [⟨some 23, .mv (.t 6), none⟩,
  ⟨some 24, .bin .geq (.t 23) (.k (.int .i64 0)), none⟩,
  ⟨some 25, .call 14 [(.t 24)], none⟩])
 (.seq (.ops [⟨some 26, .mv (.t 6), none⟩,
  ⟨some 4, .mv (.t 26), none⟩])
 .ret))))), [.tmp 4], true⟩
/-- (*eyot/gtext.reader).rule -/
def a21 : AFn := ⟨2, (.seq (.ops [⟨some 12, .mv (.t 1), none⟩,
  ⟨some 13, .call 17 [(.t 12)], none⟩,
  ⟨some 11, .mv (.t 13), none⟩,
  ⟨some 14, .ext 0 (.t 11), none⟩,
  ⟨some 15, .ext 1 (.t 11), none⟩,
  ⟨some 4, .mv (.t 14), none⟩,
  ⟨some 5, .mv (.t 15), none⟩])
 (.seq (.ops [⟨some 16, .mv (.t 5), none⟩,
  ⟨some 17, .call 14 [(.t 16)], none⟩])
 (.seq (.ops [⟨some 18, .mv (.t 0), none⟩,
  ⟨some 19, .nilc (.t 18), none⟩,
  ⟨some 20, .fa 7 1 false (.t 19), none⟩,
  ⟨some 21, .ld 1 false (.t 20), none⟩,
  ⟨some 22, .mv (.t 4), none⟩,
  ⟨some 23, .call 18 [(.t 21), (.t 22)], none⟩,
  ⟨some 24, .bld (.agg ([.int .i64 0, .list true [], .int .i64 0])) [((0, 1), (.t 23)), ((2, 1), (.k (.int .i64 (-1))))], none⟩,
  ⟨some 6, .alv ([.int .i64 0, .list true [], .int .i64 0]), none⟩,
  ⟨none, .st 3 (.t 6) (.t 24), none⟩])
 (.seq (.ops [⟨some 25, .mv (.t 1), none⟩,
  ⟨some 26, .sl 1 (.t 25) (some (.k (.int .i64 3))) none none, none⟩,
  ⟨some 7, .mv (.t 26), none⟩])
 (.seq (.seq (.ops [⟨some 27, .mv (.t 7), none⟩,
  ⟨some 28, .len (.t 27), none⟩,
  ⟨some 29, .bin .sub (.t 28) (.k (.int .i64 2)), none⟩,
  ⟨some 8, .mv (.t 29), none⟩])
 (.seq (.ops [⟨some 30, .mv (.t 8), none⟩,
  ⟨some 31, .bin .geq (.t 30) (.k (.int .i64 0)), none⟩,
  ⟨some 32, .mv (.t 31), none⟩,
  ⟨some 33, .mv (.t 7), some (32, true)⟩,
  ⟨some 34, .mv (.t 8), some (32, true)⟩,
  ⟨some 35, .ix 1 (.t 33) (.t 34), some (32, true)⟩,
  ⟨some 36, .ld 1 false (.t 35), some (32, true)⟩,
  ⟨some 37, .bin .eql (.t 36) (.k (.str [58])), some (32, true)⟩,
  ⟨some 38, .pick (.t 32) (.t 37) (.k (.bool false)), none⟩])
 (.cond (.t 38) (.seq (.dops [⟨some 39, .mv (.t 0), none⟩,
  ⟨some 40, .nilc (.t 39), none⟩,
  ⟨some 41, .fa 0 7 true (.t 40), none⟩,
  ⟨some 42, .ldo 7 true (.t 41), none⟩,
  ⟨some 43, .mv (.t 7), none⟩,
  ⟨some 44, .mv (.t 8), none⟩,
  ⟨some 45, .bin .add (.t 44) (.k (.int .i64 1)), none⟩,
  ⟨some 46, .ix 1 (.t 43) (.t 45), none⟩,
  ⟨some 47, .ld 1 false (.t 46), none⟩,
  ⟨some 48, .call 19 [(.t 42), (.t 47)], none⟩,
  ⟨some 49, .fa 2 1 false (.t 6), none⟩,
  ⟨none, .st 1 (.t 49) (.t 48), none⟩])
 (.seq (.ops [⟨some 50, .fa 2 1 false (.t 6), none⟩,
  ⟨some 51, .ldp 1 false (.t 50), none⟩,
  ⟨some 52, .bin .geq (.t 51) (.k (.int .i64 0)), none⟩,
  ⟨some 53, .call 14 [(.t 52)], none⟩])
 (.ops [⟨some 54, .mv (.t 7), none⟩,
  ⟨some 55, .mv (.t 8), none⟩,
  ⟨some 56, .sl 1 (.t 54) none (some (.t 55)) none, none⟩,
  ⟨some 7, .mv (.t 56), none⟩]))) .skip)))
 (.seq (.seq (.ops [⟨some 57, .mv (.t 7), none⟩,
  ⟨some 58, .len (.t 57), none⟩,
  ⟨some 59, .mv (.k (.int .i64 0)), none⟩])
 (.block 0 (.loop [0, 6, 57, 58, 59] (.seq (.ops [⟨some 60, .bin .lss (.t 59) (.t 58), none⟩])
 (.seq (.cond (.t 60) .skip (.exit 0))
 (.seq (.block 1 (.seq (.ops [⟨some 61, .ix 1 (.t 57) (.t 59), none⟩,
  ⟨some 62, .ld 1 false (.t 61), none⟩,
  ⟨some 10, .mv (.t 62), none⟩])
 (.dops [⟨some 63, .fa 1 1 false (.t 6), none⟩,
  ⟨some 64, .ldp 1 false (.t 63), none⟩,
  ⟨some 65, .mv (.t 0), none⟩,
  ⟨some 66, .mv (.t 10), none⟩,
  ⟨some 67, .call 20 [(.t 65), (.t 66)], none⟩,
  ⟨some 68, .mkl (.int .i64 0) 1 [(0, (.t 67))], none⟩,
  ⟨some 69, .app 1 (.t 64) (.t 68), none⟩,
  ⟨some 70, .fa 1 1 false (.t 6), none⟩,
  ⟨none, .st 1 (.t 70) (.t 69), none⟩])))
 (.ops [⟨some 71, .bin .add (.t 59) (.k (.int .i64 1)), none⟩,
  ⟨some 59, .mv (.t 71), none⟩])))))))
 (.dops [⟨some 72, .mv (.t 0), none⟩,
  ⟨some 73, .mv (.t 0), none⟩,
  ⟨some 74, .nilc (.t 73), none⟩,
  ⟨some 75, .fa 0 7 true (.t 74), none⟩,
  ⟨some 76, .fa 3 1 false (.t 75), none⟩,
  ⟨some 77, .ldo 1 false (.t 76), none⟩,
  ⟨some 78, .ldl 3 true 6, none⟩,
  ⟨some 79, .mkl (.agg ([.int .i64 0, .list true [], .int .i64 0])) 1 [(0, (.t 78))], none⟩,
  ⟨some 80, .app 3 (.t 77) (.t 79), none⟩,
  ⟨some 81, .nilc (.t 72), none⟩,
  ⟨some 82, .fa 0 7 true (.t 81), none⟩,
  ⟨some 83, .fa 3 1 false (.t 82), none⟩,
  ⟨none, .sto 1 (.t 83) (.t 80), none⟩]))))))), [], false⟩
/-- eyot/gtext.word -/
def a22 : AFn := ⟨1, (.seq (.ops [⟨some 2, .mv (.k (.str [])), none⟩,
  ⟨some 3, .mv (.k (.str [])), none⟩])
 (.seq (.ops [⟨some 4, .mv (.t 0), none⟩,
  ⟨some 5, .len (.t 4), none⟩,
  ⟨some 6, .bin .eql (.t 5) (.k (.int .i64 4)), none⟩,
  ⟨some 7, .mv (.t 6), none⟩,
  ⟨some 8, .mv (.t 0), some (7, true)⟩,
  ⟨some 9, .ix 1 (.t 8) (.k (.int .i64 2)), some (7, true)⟩,
  ⟨some 10, .ld 1 false (.t 9), some (7, true)⟩,
  ⟨some 11, .bin .eql (.t 10) (.k (.str [61])), some (7, true)⟩,
  ⟨some 12, .pick (.t 7) (.t 11) (.k (.bool false)), none⟩,
  ⟨some 13, .mv (.t 12), none⟩,
  ⟨some 14, .mv (.t 0), some (13, true)⟩,
  ⟨some 15, .ix 1 (.t 14) (.k (.int .i64 1)), some (13, true)⟩,
  ⟨some 16, .ld 1 false (.t 15), some (13, true)⟩,
  ⟨some 17, .call 48 [(.t 16)], some (13, true)⟩,
  ⟨some 18, .pick (.t 13) (.t 17) (.k (.bool false)), none⟩,
  ⟨some 19, .call 14 [(.t 18)], none⟩])
 (.seq (.dops [⟨some 20, .mv (.t 0), none⟩,
  ⟨some 21, .ix 1 (.t 20) (.k (.int .i64 1)), none⟩,
  ⟨some 22, .ld 1 false (.t 21), none⟩,
  ⟨some 23, .mv (.t 0), none⟩,
  ⟨some 24, .ix 1 (.t 23) (.k (.int .i64 3)), none⟩,
  ⟨some 25, .ld 1 false (.t 24), none⟩,
  ⟨some 2, .mv (.t 22), none⟩,
  ⟨some 3, .mv (.t 25), none⟩])
 .ret))), [.tmp 2, .tmp 3], true⟩
/-- eyot/weigh.Parse -/
def a23 : AFn := ⟨1, (.seq (.ops [⟨some 2, .aob ([.flt .f64 0]), none⟩,
  ⟨some 3, .aob ([.int .i64 0]), none⟩])
 (.dfr 4 105 [(.t 2), (.t 3)] 5 (.seq (.ops [⟨some 5, .mv (.t 0), none⟩,
  ⟨some 6, .call 70 [(.t 5)], none⟩,
  ⟨none, .st 1 (.t 2) (.t 6), none⟩,
  ⟨none, .st 1 (.t 3) (.k (.int .i64 0)), none⟩])
 .ret)
 (.seq (.ops [⟨some 6, .tas 2 (.agg ([])) true (.t 5), none⟩,
  ⟨some 4, .mv (.t 6), none⟩,
  ⟨some 7, .ext 0 (.t 4), none⟩,
  ⟨some 8, .ext 1 (.t 4), none⟩,
  ⟨some 2, .alv ([]), none⟩,
  ⟨none, .st0 (.t 2) (.t 7), none⟩,
  ⟨some 3, .mv (.t 8), none⟩])
 (.seq (.ops [⟨some 9, .mv (.t 3), none⟩])
 (.cond (.t 9) (.ops [⟨none, .st 1 (.t 0) (.k (.flt .f64 0)), none⟩,
  ⟨none, .st 1 (.t 1) (.k (.int .i64 2)), none⟩]) .skip))))), [.cell 2 1 false, .cell 3 1 false], true⟩
/-- (*eyot/gtext.reader).scope -/
def a24 : AFn := ⟨2, (.seq (.ops [⟨some 9, .mv (.t 1), none⟩,
  ⟨some 10, .call 22 [(.t 9)], none⟩,
  ⟨some 8, .mv (.t 10), none⟩,
  ⟨some 11, .ext 0 (.t 8), none⟩,
  ⟨some 12, .ext 1 (.t 8), none⟩,
  ⟨some 4, .mv (.t 11), none⟩,
  ⟨some 5, .mv (.t 12), none⟩])
 (.seq (.ops [⟨some 14, .mv (.t 5), none⟩,
  ⟨some 15, .call 23 [(.t 14)], none⟩,
  ⟨some 13, .mv (.t 15), none⟩,
  ⟨some 16, .ext 0 (.t 13), none⟩,
  ⟨some 17, .ext 1 (.t 13), none⟩,
  ⟨some 6, .mv (.t 16), none⟩,
  ⟨some 7, .mv (.t 17), none⟩])
 (.seq (.ops [⟨some 18, .mv (.t 7), none⟩,
  ⟨some 19, .bin .eql (.t 18) (.k (.int .i64 0)), none⟩,
  ⟨some 20, .call 14 [(.t 19)], none⟩])
 (.ops [⟨some 21, .mv (.t 0), none⟩,
  ⟨some 22, .mv (.t 0), none⟩,
  ⟨some 23, .nilc (.t 22), none⟩,
  ⟨some 24, .fa 0 7 true (.t 23), none⟩,
  ⟨some 25, .fa 2 1 false (.t 24), none⟩,
  ⟨some 26, .ld 1 false (.t 25), none⟩,
  ⟨some 27, .mv (.t 4), none⟩,
  ⟨some 28, .mv (.t 5), none⟩,
  ⟨some 29, .bld (.agg ([.str [], .str []])) [((0, 1), (.t 27)), ((1, 1), (.t 28))], none⟩,
  ⟨some 30, .mkl (.agg ([.str [], .str []])) 1 [(0, (.t 29))], none⟩,
  ⟨some 31, .app 2 (.t 26) (.t 30), none⟩,
  ⟨some 32, .nilc (.t 21), none⟩,
  ⟨some 33, .fa 0 7 true (.t 32), none⟩,
  ⟨some 34, .fa 2 1 false (.t 33), none⟩,
  ⟨none, .st 1 (.t 34) (.t 31), none⟩])))), [], false⟩
/-- eyot/gram.Token -/
def a25 : AFn := ⟨2, (.seq (.ops [⟨some 2, .bim 7 (.t 0), none⟩,
  ⟨some 3, .bob 1 (.t 1), none⟩,
  ⟨some 4, .mv (.k (.int .i64 0)), none⟩])
 (.seq (.ops [⟨some 5, .fa 0 1 false (.t 2), none⟩,
  ⟨some 6, .ldi 1 false (.t 5), none⟩,
  ⟨some 7, .mkfn 51 [(.t 3)], none⟩,
  ⟨some 8, .call 52 [(.t 6), (.t 7)], none⟩,
  ⟨some 4, .mv (.t 8), none⟩])
 .ret)), [.tmp 4], true⟩
/-- eyot/gtext.classes -/
def a26 : AFn := ⟨1, (.seq (.ops [⟨some 2, .mv (.k (.list true [])), none⟩])
 (.seq (.ops [⟨some 3, .mv (.k (.list true [])), none⟩])
 (.seq (.seq (.ops [⟨some 9, .mv (.t 0), none⟩,
  ⟨some 10, .len (.t 9), none⟩,
  ⟨some 11, .mv (.k (.int .i64 0)), none⟩])
 (.block 0 (.loop [3, 9, 10, 11, 24, 25, 26, 27] (.seq (.ops [⟨some 12, .bin .lss (.t 11) (.t 10), none⟩])
 (.seq (.cond (.t 12) .skip (.exit 0))
 (.seq (.block 1 (.seq (.ops [⟨some 13, .ix 1 (.t 9) (.t 11), none⟩,
  ⟨some 14, .ld 1 false (.t 13), none⟩,
  ⟨some 5, .mv (.t 14), none⟩])
 (.seq (.ops [⟨some 16, .mv (.t 5), none⟩,
  ⟨some 17, .call 34 [(.t 16)], none⟩,
  ⟨some 15, .mv (.t 17), none⟩,
  ⟨some 18, .ext 0 (.t 15), none⟩,
  ⟨some 19, .ext 1 (.t 15), none⟩,
  ⟨some 20, .ext 2 (.t 15), none⟩,
  ⟨some 6, .alv ([.int .u64 0, .int .u64 0, .int .u64 0, .int .u64 0]), none⟩,
  ⟨none, .st 4 (.t 6) (.t 18), none⟩,
  ⟨some 7, .mv (.t 19), none⟩,
  ⟨some 8, .mv (.t 20), none⟩])
 (.seq (.ops [⟨some 21, .mv (.t 8), none⟩,
  ⟨some 22, .bin .eql (.t 21) (.k (.int .i64 0)), none⟩,
  ⟨some 23, .mv (.t 22), none⟩,
  ⟨some 24, .mv (.t 7), some (23, true)⟩,
  ⟨some 25, .mv (.t 5), some (23, true)⟩,
  ⟨some 26, .lns (.t 25), some (23, true)⟩,
  ⟨some 27, .bin .eql (.t 24) (.t 26), some (23, true)⟩,
  ⟨some 28, .pick (.t 23) (.t 27) (.k (.bool false)), none⟩,
  ⟨some 29, .call 14 [(.t 28)], none⟩])
 (.ops [⟨some 30, .mv (.t 3), none⟩,
  ⟨some 31, .ldl 4 true 6, none⟩,
  ⟨some 32, .mkl (.agg ([.int .u64 0, .int .u64 0, .int .u64 0, .int .u64 0])) 1 [(0, (.t 31))], none⟩,
  ⟨some 33, .app 4 (.t 30) (.t 32), none⟩,
  ⟨some 3, .mv (.t 33), none⟩])))))
 (.ops [⟨some 34, .bin .add (.t 11) (.k (.int .i64 1)), none⟩,
  ⟨some 11, .mv (.t 34), none⟩])))))))
 (.seq (.ops [⟨some 35, .mv (.t 3), none⟩,
  ⟨some 2, .mv (.t 35), none⟩])
 (.seq (.ops [⟨none, .frz (.sl .no) 2, none⟩]) .ret))))), [.tmp 2], true⟩
/-- (*eyot/gtext.reader).sync -/
def a27 : AFn := ⟨2, (.seq (.ops [⟨some 5, .mv (.t 1), none⟩,
  ⟨some 6, .call 18 [(.t 5), (.k (.str [124]))], none⟩,
  ⟨some 4, .mv (.t 6), none⟩])
 (.seq (.ops [⟨some 7, .mv (.t 4), none⟩,
  ⟨some 8, .bin .gtr (.t 7) (.k (.int .i64 0)), none⟩,
  ⟨some 9, .call 14 [(.t 8)], none⟩])
 (.dops [⟨some 10, .mv (.t 0), none⟩,
  ⟨some 11, .mv (.t 0), none⟩,
  ⟨some 12, .mv (.t 1), none⟩,
  ⟨some 13, .mv (.t 4), none⟩,
  ⟨some 14, .sl 1 (.t 12) (some (.k (.int .i64 1))) (some (.t 13)) none, none⟩,
  ⟨some 15, .call 26 [(.t 14)], none⟩,
  ⟨some 16, .mv (.t 1), none⟩,
  ⟨some 17, .mv (.t 4), none⟩,
  ⟨some 18, .bin .add (.t 17) (.k (.int .i64 1)), none⟩,
  ⟨some 19, .sl 1 (.t 16) (some (.t 18)) none none, none⟩,
  ⟨some 20, .call 26 [(.t 19)], none⟩,
  ⟨some 21, .nilc (.t 10), none⟩,
  ⟨some 22, .fa 0 7 true (.t 21), none⟩,
  ⟨some 23, .fa 4 1 false (.t 22), none⟩,
  ⟨none, .sto 1 (.t 23) (.t 15), none⟩,
  ⟨some 24, .nilc (.t 11), none⟩,
  ⟨some 25, .fa 0 7 true (.t 24), none⟩,
  ⟨some 26, .fa 5 1 false (.t 25), none⟩,
  ⟨none, .sto 1 (.t 26) (.t 20), none⟩]))), [], false⟩
/-- eyot/regex.Parse -/
def a28 : AFn := ⟨1, (.seq (.ops [⟨some 2, .aob ([.int .i64 0, .int .u64 0, .int .u64 0, .int .u64 0, .int .u64 0, .list true []]), none⟩,
  ⟨some 3, .aob ([.int .i64 0]), none⟩])
 (.dfr 6 104 [(.t 2), (.t 3)] 5 (.seq (.ops [⟨some 7, .mv (.t 0), none⟩,
  ⟨some 8, .bld (.agg ([.str [], .int .i64 0])) [((0, 1), (.t 7))], none⟩,
  ⟨some 9, .bob 2 (.t 8), none⟩,
  ⟨some 4, .mv (.t 9), none⟩])
 (.seq (.ops [⟨some 10, .mv (.t 4), none⟩,
  ⟨some 11, .call 33 [(.t 10)], none⟩,
  ⟨none, .st 6 (.t 2) (.t 11), none⟩])
 (.seq (.seq (.ops [⟨some 12, .mv (.t 4), none⟩,
  ⟨some 13, .nilc (.t 12), none⟩,
  ⟨some 14, .fa 0 1 false (.t 13), none⟩,
  ⟨some 15, .ld 1 false (.t 14), none⟩,
  ⟨some 16, .bin .neq (.t 15) (.k (.str [])), none⟩])
 (.cond (.t 16) (.ops [⟨some 17, .bld (.agg ([.int .i64 0])) [((0, 1), (.k (.int .i64 2)))], none⟩,
  ⟨some 18, .mkif 3 (.t 17), none⟩,
  ⟨none, .pan (.t 18), none⟩]) .skip))
 (.seq (.seq (.ops [⟨some 19, .ldo 6 true (.t 2), none⟩,
  ⟨some 20, .call 3 [(.t 19)], none⟩,
  ⟨some 5, .mv (.t 20), none⟩])
 (.seq (.ops [⟨some 21, .mv (.t 5), none⟩,
  ⟨some 22, .bin .neq (.t 21) (.k (.int .i64 0)), none⟩])
 (.cond (.t 22) (.ops [⟨some 23, .mv (.t 5), none⟩,
  ⟨some 24, .bld (.agg ([.int .i64 0])) [((0, 1), (.t 23))], none⟩,
  ⟨some 25, .mkif 3 (.t 24), none⟩,
  ⟨none, .pan (.t 25), none⟩]) .skip)))
 (.seq (.ops [⟨some 26, .ldo 6 true (.t 2), none⟩,
  ⟨none, .st 6 (.t 2) (.t 26), none⟩,
  ⟨none, .st 1 (.t 3) (.k (.int .i64 0)), none⟩])
 .ret)))))
 (.seq (.ops [⟨some 6, .tas 3 (.agg ([.int .i64 0])) true (.t 5), none⟩,
  ⟨some 4, .mv (.t 6), none⟩,
  ⟨some 7, .ext 0 (.t 4), none⟩,
  ⟨some 8, .ext 1 (.t 4), none⟩,
  ⟨some 2, .alv ([.int .i64 0]), none⟩,
  ⟨none, .st 1 (.t 2) (.t 7), none⟩,
  ⟨some 3, .mv (.t 8), none⟩])
 (.seq (.ops [⟨some 9, .mv (.t 3), none⟩])
 (.cond (.t 9) (.dops [⟨some 10, .bld (.agg ([.int .i64 0, .int .u64 0, .int .u64 0, .int .u64 0, .int .u64 0, .list true []])) [], none⟩,
  ⟨some 11, .fa 0 1 false (.t 2), none⟩,
  ⟨some 12, .ldp 1 false (.t 11), none⟩,
  ⟨none, .sto 6 (.t 0) (.t 10), none⟩,
  ⟨none, .sto 1 (.t 1) (.t 12), none⟩]) .skip))))), [.cell 2 6 true, .cell 3 1 false], false⟩
/-- (*eyot/gtext.reader).token -/
def a29 : AFn := ⟨2, (.seq (.ops [⟨some 9, .mv (.t 1), none⟩,
  ⟨some 10, .call 22 [(.t 9)], none⟩,
  ⟨some 8, .mv (.t 10), none⟩,
  ⟨some 11, .ext 0 (.t 8), none⟩,
  ⟨some 12, .ext 1 (.t 8), none⟩,
  ⟨some 4, .mv (.t 11), none⟩,
  ⟨some 5, .mv (.t 12), none⟩])
 (.seq (.ops [⟨some 14, .mv (.t 5), none⟩,
  ⟨some 15, .call 28 [(.t 14)], none⟩,
  ⟨some 13, .mv (.t 15), none⟩,
  ⟨some 16, .ext 0 (.t 13), none⟩,
  ⟨some 17, .ext 1 (.t 13), none⟩,
  ⟨some 6, .alv ([.int .i64 0, .int .u64 0, .int .u64 0, .int .u64 0, .int .u64 0, .list true []]), none⟩,
  ⟨none, .st 6 (.t 6) (.t 16), none⟩,
  ⟨some 7, .mv (.t 17), none⟩])
 (.seq (.ops [⟨some 18, .mv (.t 7), none⟩,
  ⟨some 19, .bin .eql (.t 18) (.k (.int .i64 0)), none⟩,
  ⟨some 20, .call 14 [(.t 19)], none⟩])
 (.dops [⟨some 21, .mv (.t 0), none⟩,
  ⟨some 22, .mv (.t 0), none⟩,
  ⟨some 23, .nilc (.t 22), none⟩,
  ⟨some 24, .fa 0 7 true (.t 23), none⟩,
  ⟨some 25, .fa 0 1 false (.t 24), none⟩,
  ⟨some 26, .ldo 1 false (.t 25), none⟩,
  ⟨some 27, .mv (.t 4), none⟩,
  ⟨some 28, .ldl 6 true 6, none⟩,
  ⟨some 29, .mv (.t 1), none⟩,
  ⟨some 30, .ix 1 (.t 29) (.k (.int .i64 0)), none⟩,
  ⟨some 31, .ld 1 false (.t 30), none⟩,
  ⟨some 32, .bin .eql (.t 31) (.k (.str [116, 114, 105, 118, 105, 97])), none⟩,
  ⟨some 33, .bld (.agg ([.str [], .int .i64 0, .int .u64 0, .int .u64 0, .int .u64 0, .int .u64 0, .list true [], .bool false])) [((0, 1), (.t 27)), ((1, 6), (.t 28)), ((7, 1), (.t 32))], none⟩,
  ⟨some 34, .mkl (.agg ([.str [], .int .i64 0, .int .u64 0, .int .u64 0, .int .u64 0, .int .u64 0, .list true [], .bool false])) 1 [(0, (.t 33))], none⟩,
  ⟨some 35, .app 8 (.t 26) (.t 34), none⟩,
  ⟨some 36, .nilc (.t 21), none⟩,
  ⟨some 37, .fa 0 7 true (.t 36), none⟩,
  ⟨some 38, .fa 0 1 false (.t 37), none⟩,
  ⟨none, .sto 1 (.t 38) (.t 35), none⟩])))), [], false⟩
/-- (*eyot/regex.reader).cat -/
def a30 : AFn := ⟨1, (.seq (.ops [⟨some 2, .alv ([.int .i64 0, .int .u64 0, .int .u64 0, .int .u64 0, .int .u64 0, .list true []]), none⟩])
 (.seq (.ops [⟨some 4, .mv (.t 0), none⟩,
  ⟨some 5, .call 36 [(.t 4)], none⟩,
  ⟨some 6, .mkm (.agg ([.int .i64 0, .int .u64 0, .int .u64 0, .int .u64 0, .int .u64 0, .list true []])) 1 [(0, (.t 5))], none⟩,
  ⟨some 3, .mv (.t 6), none⟩])
 (.seq (.block 0 (.loop [0, 2, 3, 14, 15, 16, 19, 20, 21] (.seq (.seq (.ops [⟨some 7, .mv (.t 0), none⟩,
  ⟨some 8, .nilc (.t 7), none⟩,
  ⟨some 9, .fa 0 1 false (.t 8), none⟩,
  ⟨some 10, .ld 1 false (.t 9), none⟩,
  ⟨some 11, .lns (.t 10), none⟩,
  ⟨some 12, .bin .gtr (.t 11) (.k (.int .i64 0)), none⟩,
  ⟨some 13, .mv (.t 12), none⟩,
  ⟨some 14, .mv (.t 0), some (13, true)⟩,
  ⟨some 15, .call 31 [(.t 14), (.k (.int .u8 124))], some (13, true)⟩,
  ⟨some 16, .un .not (.t 15), some (13, true)⟩,
  ⟨some 17, .pick (.t 13) (.t 16) (.k (.bool false)), none⟩,
  ⟨some 18, .mv (.t 17), none⟩,
  ⟨some 19, .mv (.t 0), some (18, true)⟩,
  ⟨some 20, .call 31 [(.t 19), (.k (.int .u8 41))], some (18, true)⟩,
  ⟨some 21, .un .not (.t 20), some (18, true)⟩,
  ⟨some 22, .pick (.t 18) (.t 21) (.k (.bool false)), none⟩])
 (.cond (.t 22) .skip (.exit 0)))
 (.block 1 (.ops [⟨some 23, .mv (.t 3), none⟩,
  ⟨some 24, .mv (.t 0), none⟩,
  ⟨some 25, .call 36 [(.t 24)], none⟩,
  ⟨some 26, .mkl (.agg ([.int .i64 0, .int .u64 0, .int .u64 0, .int .u64 0, .int .u64 0, .list true []])) 1 [(0, (.t 25))], none⟩,
  ⟨some 27, .app 6 (.t 23) (.t 26), none⟩,
  ⟨some 3, .mv (.t 27), none⟩])))))
 (.seq (.ops [⟨some 28, .mv (.t 3), none⟩,
  ⟨some 29, .call 32 [(.k (.int .i64 2)), (.t 28)], none⟩,
  ⟨none, .st 6 (.t 2) (.t 29), none⟩])
 .ret)))), [.cell 2 6 true], false⟩
/-- (*eyot/regex.reader).sees -/
def a31 : AFn := ⟨2, (.seq (.ops [⟨some 4, .mv (.k (.bool false)), none⟩])
 (.seq (.ops [⟨some 5, .mv (.t 0), none⟩,
  ⟨some 6, .nilc (.t 5), none⟩,
  ⟨some 7, .fa 0 1 false (.t 6), none⟩,
  ⟨some 8, .ld 1 false (.t 7), none⟩,
  ⟨some 9, .lns (.t 8), none⟩,
  ⟨some 10, .bin .gtr (.t 9) (.k (.int .i64 0)), none⟩,
  ⟨some 11, .mv (.t 10), none⟩,
  ⟨some 12, .mv (.t 0), some (11, true)⟩,
  ⟨some 13, .nilc (.t 12), some (11, true)⟩,
  ⟨some 14, .fa 0 1 false (.t 13), some (11, true)⟩,
  ⟨some 15, .ld 1 false (.t 14), some (11, true)⟩,
  ⟨some 16, .ixs (.t 15) (.k (.int .i64 0)), some (11, true)⟩,
  ⟨some 17, .mv (.t 1), some (11, true)⟩,
  ⟨some 18, .bin .eql (.t 16) (.t 17), some (11, true)⟩,
  ⟨some 19, .pick (.t 11) (.t 18) (.k (.bool false)), none⟩,
  ⟨some 4, .mv (.t 19), none⟩])
 .ret)), [.tmp 4], true⟩
/-- eyot/regex.one -/
def a32 : AFn := ⟨2, (.seq (.ops [⟨some 4, .alv ([.int .i64 0, .int .u64 0, .int .u64 0, .int .u64 0, .int .u64 0, .list true []]), none⟩])
 (.seq (.seq (.ops [⟨some 5, .mv (.t 1), none⟩,
  ⟨some 6, .len (.t 5), none⟩,
  ⟨some 7, .bin .eql (.t 6) (.k (.int .i64 1)), none⟩])
 (.cond (.t 7) (.seq (.ops [⟨some 8, .mv (.t 1), none⟩,
  ⟨some 9, .ix 6 (.t 8) (.k (.int .i64 0)), none⟩,
  ⟨some 10, .ld 6 true (.t 9), none⟩,
  ⟨none, .st 6 (.t 4) (.t 10), none⟩])
 .ret) .skip))
 (.seq (.ops [⟨some 11, .mv (.t 0), none⟩,
  ⟨some 12, .mv (.t 1), none⟩,
  ⟨some 13, .bld (.agg ([.int .i64 0, .int .u64 0, .int .u64 0, .int .u64 0, .int .u64 0, .list true []])) [((0, 1), (.t 11)), ((5, 1), (.t 12))], none⟩,
  ⟨none, .st 6 (.t 4) (.t 13), none⟩])
 .ret))), [.cell 4 6 true], true⟩
/-- (*eyot/regex.reader).alt -/
def a33 : AFn := ⟨1, (.seq (.ops [⟨some 2, .alv ([.int .i64 0, .int .u64 0, .int .u64 0, .int .u64 0, .int .u64 0, .list true []]), none⟩])
 (.seq (.ops [⟨some 4, .mv (.t 0), none⟩,
  ⟨some 5, .call 30 [(.t 4)], none⟩,
  ⟨some 6, .mkm (.agg ([.int .i64 0, .int .u64 0, .int .u64 0, .int .u64 0, .int .u64 0, .list true []])) 1 [(0, (.t 5))], none⟩,
  ⟨some 3, .mv (.t 6), none⟩])
 (.seq (.block 0 (.loop [0, 2, 3] (.seq (.seq (.ops [⟨some 7, .mv (.t 0), none⟩,
  ⟨some 8, .call 31 [(.t 7), (.k (.int .u8 124))], none⟩])
 (.cond (.t 8) .skip (.exit 0)))
 (.block 1 (.seq (.ops [⟨some 9, .mv (.t 0), none⟩,
  ⟨some 10, .mv (.t 0), none⟩,
  ⟨some 11, .nilc (.t 10), none⟩,
  ⟨some 12, .fa 0 1 false (.t 11), none⟩,
  ⟨some 13, .ld 1 false (.t 12), none⟩,
  ⟨some 14, .ss (.t 13) (some (.k (.int .i64 1))) none, none⟩,
  ⟨some 15, .nilc (.t 9), none⟩,
  ⟨some 16, .fa 0 1 false (.t 15), none⟩,
  ⟨none, .st 1 (.t 16) (.t 14), none⟩])
 (.ops [⟨some 17, .mv (.t 3), none⟩,
  ⟨some 18, .mv (.t 0), none⟩,
  ⟨some 19, .call 30 [(.t 18)], none⟩,
  ⟨some 20, .mkl (.agg ([.int .i64 0, .int .u64 0, .int .u64 0, .int .u64 0, .int .u64 0, .list true []])) 1 [(0, (.t 19))], none⟩,
  ⟨some 21, .app 6 (.t 17) (.t 20), none⟩,
  ⟨some 3, .mv (.t 21), none⟩]))))))
 (.seq (.ops [⟨some 22, .mv (.t 3), none⟩,
  ⟨some 23, .call 32 [(.k (.int .i64 3)), (.t 22)], none⟩,
  ⟨none, .st 6 (.t 2) (.t 23), none⟩])
 .ret)))), [.cell 2 6 true], false⟩
/-- eyot/class.Parse -/
def a34 : AFn := ⟨1, (.seq (.ops [⟨some 2, .aob ([.int .u64 0, .int .u64 0, .int .u64 0, .int .u64 0]), none⟩,
  ⟨some 3, .aob ([.int .i64 0]), none⟩,
  ⟨some 4, .aob ([.int .i64 0]), none⟩])
 (.dfr 8 101 [(.t 2), (.t 3), (.t 4)] 6 (.seq (.ops [⟨some 9, .mv (.t 0), none⟩,
  ⟨some 10, .bld (.agg ([.str [], .int .i64 0])) [((0, 1), (.t 9))], none⟩,
  ⟨some 11, .bob 2 (.t 10), none⟩,
  ⟨some 5, .mv (.t 11), none⟩])
 (.seq (.ops [⟨some 12, .mv (.t 5), none⟩,
  ⟨some 13, .call 11 [(.t 12)], none⟩,
  ⟨none, .st 4 (.t 2) (.t 13), none⟩])
 (.seq (.seq (.ops [⟨some 15, .ldo 4 true (.t 2), none⟩,
  ⟨some 16, .call 37 [(.t 15)], none⟩,
  ⟨some 14, .mv (.t 16), none⟩,
  ⟨some 17, .ext 0 (.t 14), none⟩,
  ⟨some 18, .ext 1 (.t 14), none⟩,
  ⟨some 6, .mv (.t 17), none⟩,
  ⟨some 7, .mv (.t 18), none⟩])
 (.seq (.ops [⟨some 19, .mv (.t 7), none⟩,
  ⟨some 20, .un .not (.t 19), none⟩])
 (.cond (.t 20) (.ops [⟨some 21, .bld (.agg ([])) [], none⟩,
  ⟨some 22, .mkif 0 (.t 21), none⟩,
  ⟨none, .pan (.t 22), none⟩]) .skip)))
 (.seq (.dops [⟨some 23, .ldo 4 true (.t 2), none⟩,
  ⟨some 24, .mv (.t 5), none⟩,
  ⟨some 25, .nilc (.t 24), none⟩,
  ⟨some 26, .fa 1 1 false (.t 25), none⟩,
  ⟨some 27, .ld 1 false (.t 26), none⟩,
  ⟨none, .sts 4 (.t 2) (.t 23), none⟩,
  ⟨none, .sto 1 (.t 3) (.t 27), none⟩,
  ⟨none, .sto 1 (.t 4) (.k (.int .i64 0)), none⟩])
 .ret))))
 (.seq (.ops [⟨some 7, .tas 0 (.agg ([])) true (.t 6), none⟩,
  ⟨some 5, .mv (.t 7), none⟩,
  ⟨some 8, .ext 0 (.t 5), none⟩,
  ⟨some 9, .ext 1 (.t 5), none⟩,
  ⟨some 3, .alv ([]), none⟩,
  ⟨none, .st0 (.t 3) (.t 8), none⟩,
  ⟨some 4, .mv (.t 9), none⟩])
 (.seq (.ops [⟨some 10, .mv (.t 4), none⟩])
 (.cond (.t 10) (.ops [⟨some 11, .bld (.agg ([.int .u64 0, .int .u64 0, .int .u64 0, .int .u64 0])) [], none⟩,
  ⟨none, .st 4 (.t 0) (.t 11), none⟩,
  ⟨none, .st 1 (.t 1) (.k (.int .i64 0)), none⟩,
  ⟨none, .st 1 (.t 2) (.k (.int .i64 2)), none⟩]) .skip))))), [.cell 2 4 true, .cell 3 1 false, .cell 4 1 false], true⟩
/-- (*eyot/regex.reader).atom -/
def a35 : AFn := ⟨1, (.seq (.ops [⟨some 2, .alv ([.int .i64 0, .int .u64 0, .int .u64 0, .int .u64 0, .int .u64 0, .list true []]), none⟩])
 (.seq (.seq (.ops [⟨some 7, .mv (.t 0), none⟩,
  ⟨some 8, .call 31 [(.t 7), (.k (.int .u8 40))], none⟩,
  ⟨some 9, .un .not (.t 8), none⟩])
 (.cond (.t 9) (.seq (.ops [⟨some 11, .mv (.t 0), none⟩,
  ⟨some 12, .nilc (.t 11), none⟩,
  ⟨some 13, .fa 0 1 false (.t 12), none⟩,
  ⟨some 14, .ld 1 false (.t 13), none⟩,
  ⟨some 15, .call 34 [(.t 14)], none⟩,
  ⟨some 10, .mv (.t 15), none⟩,
  ⟨some 16, .ext 0 (.t 10), none⟩,
  ⟨some 17, .ext 1 (.t 10), none⟩,
  ⟨some 18, .ext 2 (.t 10), none⟩,
  ⟨some 3, .alv ([.int .u64 0, .int .u64 0, .int .u64 0, .int .u64 0]), none⟩,
  ⟨none, .st 4 (.t 3) (.t 16), none⟩,
  ⟨some 4, .mv (.t 17), none⟩,
  ⟨some 5, .mv (.t 18), none⟩])
 (.seq (.seq (.ops [⟨some 19, .mv (.t 5), none⟩,
  ⟨some 20, .bin .neq (.t 19) (.k (.int .i64 0)), none⟩])
 (.cond (.t 20) (.ops [⟨some 21, .bld (.agg ([.int .i64 0])) [((0, 1), (.k (.int .i64 2)))], none⟩,
  ⟨some 22, .mkif 3 (.t 21), none⟩,
  ⟨none, .pan (.t 22), none⟩]) .skip))
 (.seq (.ops [⟨some 23, .mv (.t 0), none⟩,
  ⟨some 24, .mv (.t 0), none⟩,
  ⟨some 25, .nilc (.t 24), none⟩,
  ⟨some 26, .fa 0 1 false (.t 25), none⟩,
  ⟨some 27, .ld 1 false (.t 26), none⟩,
  ⟨some 28, .mv (.t 4), none⟩,
  ⟨some 29, .ss (.t 27) (some (.t 28)) none, none⟩,
  ⟨some 30, .nilc (.t 23), none⟩,
  ⟨some 31, .fa 0 1 false (.t 30), none⟩,
  ⟨none, .st 1 (.t 31) (.t 29), none⟩])
 (.seq (.ops [⟨some 32, .ldl 4 true 3, none⟩,
  ⟨some 33, .bld (.agg ([.int .i64 0, .int .u64 0, .int .u64 0, .int .u64 0, .int .u64 0, .list true []])) [((0, 1), (.k (.int .i64 1))), ((1, 4), (.t 32))], none⟩,
  ⟨none, .st 6 (.t 2) (.t 33), none⟩])
 .ret)))) .skip))
 (.seq (.seq (.ops [⟨some 34, .mv (.t 0), none⟩,
  ⟨some 35, .nilc (.t 34), none⟩,
  ⟨some 36, .fa 1 1 false (.t 35), none⟩,
  ⟨some 37, .ld 1 false (.t 36), none⟩,
  ⟨some 38, .bin .add (.t 37) (.k (.int .i64 1)), none⟩,
  ⟨some 39, .nilc (.t 34), none⟩,
  ⟨some 40, .fa 1 1 false (.t 39), none⟩,
  ⟨none, .st 1 (.t 40) (.t 38), none⟩])
 (.seq (.ops [⟨some 41, .mv (.t 0), none⟩,
  ⟨some 42, .nilc (.t 41), none⟩,
  ⟨some 43, .fa 1 1 false (.t 42), none⟩,
  ⟨some 44, .ld 1 false (.t 43), none⟩,
  ⟨some 45, .bin .gtr (.t 44) (.k (.int .i64 13)), none⟩])
 (.cond (.t 45) (.ops [⟨some 46, .bld (.agg ([.int .i64 0])) [((0, 1), (.k (.int .i64 6)))], none⟩,
  ⟨some 47, .mkif 3 (.t 46), none⟩,
  ⟨none, .pan (.t 47), none⟩]) .skip)))
 (.seq (.ops [⟨some 48, .mv (.t 0), none⟩,
  ⟨some 49, .mv (.t 0), none⟩,
  ⟨some 50, .nilc (.t 49), none⟩,
  ⟨some 51, .fa 0 1 false (.t 50), none⟩,
  ⟨some 52, .ld 1 false (.t 51), none⟩,
  ⟨some 53, .ss (.t 52) (some (.k (.int .i64 1))) none, none⟩,
  ⟨some 54, .nilc (.t 48), none⟩,
  ⟨some 55, .fa 0 1 false (.t 54), none⟩,
  ⟨none, .st 1 (.t 55) (.t 53), none⟩])
 (.seq (.ops [⟨some 56, .mv (.t 0), none⟩,
  ⟨some 57, .call 33 [(.t 56)], none⟩,
  ⟨some 6, .alv ([.int .i64 0, .int .u64 0, .int .u64 0, .int .u64 0, .int .u64 0, .list true []]), none⟩,
  ⟨none, .st 6 (.t 6) (.t 57), none⟩])
 (.seq (.seq (.ops [⟨some 58, .mv (.t 0), none⟩,
  ⟨some 59, .call 31 [(.t 58), (.k (.int .u8 41))], none⟩,
  ⟨some 60, .un .not (.t 59), none⟩])
 (.cond (.t 60) (.ops [⟨some 61, .bld (.agg ([.int .i64 0])) [((0, 1), (.k (.int .i64 2)))], none⟩,
  ⟨some 62, .mkif 3 (.t 61), none⟩,
  ⟨none, .pan (.t 62), none⟩]) .skip))
 (.seq (.ops [⟨some 63, .mv (.t 0), none⟩,
  ⟨some 64, .mv (.t 0), none⟩,
  ⟨some 65, .nilc (.t 64), none⟩,
  ⟨some 66, .fa 0 1 false (.t 65), none⟩,
  ⟨some 67, .ld 1 false (.t 66), none⟩,
  ⟨some 68, .ss (.t 67) (some (.k (.int .i64 1))) none, none⟩,
  ⟨some 69, .nilc (.t 63), none⟩,
  ⟨some 70, .fa 0 1 false (.t 69), none⟩,
  ⟨none, .st 1 (.t 70) (.t 68), none⟩])
 (.seq (.ops [⟨some 71, .mv (.t 0), none⟩,
  ⟨some 72, .nilc (.t 71), none⟩,
  ⟨some 73, .fa 1 1 false (.t 72), none⟩,
  ⟨some 74, .ld 1 false (.t 73), none⟩,
  ⟨some 75, .bin .sub (.t 74) (.k (.int .i64 1)), none⟩,
  ⟨some 76, .nilc (.t 71), none⟩,
  ⟨some 77, .fa 1 1 false (.t 76), none⟩,
  ⟨none, .st 1 (.t 77) (.t 75), none⟩])
 (.seq (.ops [⟨some 78, .ldl 6 true 6, none⟩,
  ⟨none, .st 6 (.t 2) (.t 78), none⟩])
 .ret))))))))), [.cell 2 6 true], false⟩
/-- (*eyot/regex.reader).rep -/
def a36 : AFn := ⟨1, (.seq (.ops [⟨some 2, .alv ([.int .i64 0, .int .u64 0, .int .u64 0, .int .u64 0, .int .u64 0, .list true []]), none⟩])
 (.seq (.ops [⟨some 5, .mv (.t 0), none⟩,
  ⟨some 6, .call 35 [(.t 5)], none⟩,
  ⟨some 3, .alv ([.int .i64 0, .int .u64 0, .int .u64 0, .int .u64 0, .int .u64 0, .list true []]), none⟩,
  ⟨none, .st 6 (.t 3) (.t 6), none⟩])
 (.seq (.seq (.ops [⟨some 7, .mv (.t 0), none⟩,
  ⟨some 8, .nilc (.t 7), none⟩,
  ⟨some 9, .fa 0 1 false (.t 8), none⟩,
  ⟨some 10, .ld 1 false (.t 9), none⟩,
  ⟨some 11, .lns (.t 10), none⟩,
  ⟨some 12, .bin .eql (.t 11) (.k (.int .i64 0)), none⟩])
 (.cond (.t 12) (.seq (.ops [⟨some 13, .ldl 6 true 3, none⟩,
  ⟨none, .st 6 (.t 2) (.t 13), none⟩])
 .ret) .skip))
 (.seq (.ops [⟨some 14, .mv (.t 0), none⟩,
  ⟨some 15, .nilc (.t 14), none⟩,
  ⟨some 16, .fa 0 1 false (.t 15), none⟩,
  ⟨some 17, .ld 1 false (.t 16), none⟩,
  ⟨some 18, .ixs (.t 17) (.k (.int .i64 0)), none⟩,
  ⟨some 19, .call 12 [(.k (.str [42, 43, 63])), (.t 18)], none⟩,
  ⟨some 4, .mv (.t 19), none⟩])
 (.seq (.seq (.ops [⟨some 20, .mv (.t 4), none⟩,
  ⟨some 21, .bin .lss (.t 20) (.k (.int .i64 0)), none⟩])
 (.cond (.t 21) (.seq (.ops [⟨some 22, .ldl 6 true 3, none⟩,
  ⟨none, .st 6 (.t 2) (.t 22), none⟩])
 .ret) .skip))
 (.seq (.ops [⟨some 23, .mv (.t 0), none⟩,
  ⟨some 24, .mv (.t 0), none⟩,
  ⟨some 25, .nilc (.t 24), none⟩,
  ⟨some 26, .fa 0 1 false (.t 25), none⟩,
  ⟨some 27, .ld 1 false (.t 26), none⟩,
  ⟨some 28, .ss (.t 27) (some (.k (.int .i64 1))) none, none⟩,
  ⟨some 29, .nilc (.t 23), none⟩,
  ⟨some 30, .fa 0 1 false (.t 29), none⟩,
  ⟨none, .st 1 (.t 30) (.t 28), none⟩])
 (.seq (.ops [⟨some 31, .mv (.t 4), none⟩,
  ⟨some 32, .bin .add (.k (.int .i64 4)) (.t 31), none⟩,
  ⟨some 33, .ldl 6 true 3, none⟩,
  ⟨some 34, .mkl (.agg ([.int .i64 0, .int .u64 0, .int .u64 0, .int .u64 0, .int .u64 0, .list true []])) 1 [(0, (.t 33))], none⟩,
  ⟨some 35, .bld (.agg ([.int .i64 0, .int .u64 0, .int .u64 0, .int .u64 0, .int .u64 0, .list true []])) [((0, 1), (.t 32)), ((5, 1), (.t 34))], none⟩,
  ⟨none, .st 6 (.t 2) (.t 35), none⟩])
 .ret))))))), [.cell 2 6 true], false⟩
/-- eyot/class.Least -/
def a37 : AFn := ⟨1, (.seq (.ops [⟨some 1, .bim 4 (.t 0), none⟩,
  ⟨some 2, .mv (.k (.int .u8 0)), none⟩,
  ⟨some 3, .mv (.k (.bool false)), none⟩])
 (.seq (.seq (.ops [⟨some 6, .ldi 4 true (.t 1), none⟩,
  ⟨some 7, .mv (.k (.int .i64 0)), none⟩])
 (.block 0 (.loop [6, 7] (.seq (.ops [⟨some 8, .bin .lss (.t 7) (.k (.int .i64 4)), none⟩])
 (.seq (.cond (.t 8) .skip (.exit 0))
 (.seq (.block 1 (.seq (.ops [⟨some 9, .mv (.t 7), none⟩,
  ⟨some 10, .ixa 4 1 false (.t 6) (.t 7), none⟩,
  ⟨some 4, .mv (.t 9), none⟩,
  ⟨some 5, .mv (.t 10), none⟩])
 (.seq (.ops [⟨some 11, .mv (.t 5), none⟩,
  ⟨some 12, .bin .neq (.t 11) (.k (.int .u64 0)), none⟩])
 (.cond (.t 12) (.seq (.ops [⟨some 13, .mv (.t 4), none⟩,
  ⟨some 14, .bin .mul (.k (.int .i64 64)) (.t 13), none⟩,
  ⟨some 15, .mv (.t 5), none⟩,
  ⟨some 16, .call 39 [(.t 15)], none⟩,
  ⟨some 17, .bin .add (.t 14) (.t 16), none⟩,
  ⟨some 18, .cvi .u8 (.t 17), none⟩,
  ⟨some 2, .mv (.t 18), none⟩,
  ⟨some 3, .mv (.k (.bool true)), none⟩])
 .ret) .skip))))
 (.ops [⟨some 19, .bin .add (.t 7) (.k (.int .i64 1)), none⟩,
  ⟨some 7, .mv (.t 19), none⟩])))))))
 (.seq (.ops [⟨some 2, .mv (.k (.int .u8 0)), none⟩,
  ⟨some 3, .mv (.k (.bool false)), none⟩])
 .ret))), [.tmp 2, .tmp 3], true⟩
/-- eyot/class.with -/
def a38 : AFn := ⟨3, (.seq (.ops [⟨some 3, .blv 4 (.t 0), none⟩,
  ⟨some 4, .bim 4 (.t 1), none⟩,
  ⟨some 6, .alv ([.int .u64 0, .int .u64 0, .int .u64 0, .int .u64 0]), none⟩])
 (.seq (.seq (.ops [⟨some 8, .mv (.k (.int .i64 0)), none⟩])
 (.block 0 (.loop [2, 3, 4, 6, 8] (.seq (.ops [⟨some 9, .bin .lss (.t 8) (.k (.int .i64 4)), none⟩])
 (.seq (.cond (.t 9) .skip (.exit 0))
 (.seq (.block 1 (.seq (.ops [⟨some 10, .mv (.t 8), none⟩,
  ⟨some 7, .mv (.t 10), none⟩])
 (.dops [⟨some 11, .mv (.t 7), none⟩,
  ⟨some 12, .mv (.t 2), none⟩,
  ⟨some 13, .mv (.t 7), none⟩,
  ⟨some 14, .ia 4 1 false (.t 3) (.t 13), none⟩,
  ⟨some 15, .ldp 1 false (.t 14), none⟩,
  ⟨some 16, .mv (.t 7), none⟩,
  ⟨some 17, .ia 4 1 false (.t 4) (.t 16), none⟩,
  ⟨some 18, .ldi 1 false (.t 17), none⟩,
  ⟨some 19, .callv (.t 12) [(.t 15), (.t 18)], none⟩,
  ⟨some 20, .ia 4 1 false (.t 3) (.t 11), none⟩,
  ⟨none, .st 1 (.t 20) (.t 19), none⟩])))
 (.ops [⟨some 21, .bin .add (.t 8) (.k (.int .i64 1)), none⟩,
  ⟨some 8, .mv (.t 21), none⟩])))))))
 (.seq (.ops [⟨some 22, .ldl 4 true 3, none⟩,
  ⟨none, .st 4 (.t 6) (.t 22), none⟩])
 .ret))), [.cell 6 4 true], true⟩
/-- math/bits.TrailingZeros64 -/
def a39 : AFn := ⟨1, (.seq (.ops [⟨some 2, .mv (.k (.int .i64 0)), none⟩])
 (.seq (.seq (.ops [⟨some 3, .mv (.t 0), none⟩,
  ⟨some 4, .bin .eql (.t 3) (.k (.int .u64 0)), none⟩])
 (.cond (.t 4) (.seq (.ops [⟨some 2, .mv (.k (.int .i64 64)), none⟩])
 .ret) .skip))
 (.seq (.ops [⟨some 5, .mv (.t 0), none⟩,
  ⟨some 6, .mv (.t 0), none⟩,
  ⟨some 7, .un .neg (.t 6), none⟩,
  ⟨some 8, .bin .and (.t 5) (.t 7), none⟩,
  ⟨some 9, .bin .mul (.t 8) (.k (.int .u64 285870213051353865)), none⟩,
  ⟨some 10, .bin .shr (.t 9) (.k (.int .u64 58)), none⟩,
  ⟨some 11, .ia 64 1 false (.k (.imm (.agg [.int .u8 0, .int .u8 1, .int .u8 56, .int .u8 2, .int .u8 57, .int .u8 49, .int .u8 28, .int .u8 3, .int .u8 61, .int .u8 58, .int .u8 42, .int .u8 50, .int .u8 38, .int .u8 29, .int .u8 17, .int .u8 4, .int .u8 62, .int .u8 47, .int .u8 59, .int .u8 36, .int .u8 45, .int .u8 43, .int .u8 51, .int .u8 22, .int .u8 53, .int .u8 39, .int .u8 33, .int .u8 30, .int .u8 24, .int .u8 18, .int .u8 12, .int .u8 5, .int .u8 63, .int .u8 55, .int .u8 48, .int .u8 27, .int .u8 60, .int .u8 41, .int .u8 37, .int .u8 16, .int .u8 46, .int .u8 35, .int .u8 44, .int .u8 21, .int .u8 52, .int .u8 32, .int .u8 23, .int .u8 11, .int .u8 54, .int .u8 26, .int .u8 40, .int .u8 15, .int .u8 34, .int .u8 20, .int .u8 31, .int .u8 10, .int .u8 25, .int .u8 14, .int .u8 19, .int .u8 9, .int .u8 13, .int .u8 8, .int .u8 7, .int .u8 6]))) (.t 10), none⟩,
  ⟨some 12, .ld 1 false (.t 11), none⟩,
  ⟨some 13, .cvi .i64 (.t 12), none⟩,
  ⟨some 2, .mv (.t 13), none⟩])
 .ret))), [.tmp 2], true⟩
/-- eyot/class.Not$1 -/
def a40 : AFn := ⟨2, (.seq (.ops [⟨some 4, .mv (.k (.int .u64 0)), none⟩])
 (.seq (.ops [⟨some 5, .mv (.t 0), none⟩,
  ⟨some 6, .un .xor (.t 5), none⟩,
  ⟨some 4, .mv (.t 6), none⟩])
 .ret)), [.tmp 4], true⟩
/-- eyot/class.Of -/
def a41 : AFn := ⟨1, (.seq (.ops [⟨some 2, .alv ([.int .u64 0, .int .u64 0, .int .u64 0, .int .u64 0]), none⟩])
 (.seq (.ops [⟨some 3, .alv ([.int .u64 0, .int .u64 0, .int .u64 0, .int .u64 0]), none⟩])
 (.seq (.seq (.ops [⟨some 6, .mv (.t 0), none⟩,
  ⟨some 7, .len (.t 6), none⟩,
  ⟨some 8, .mv (.k (.int .i64 0)), none⟩])
 (.block 0 (.loop [2, 3, 6, 7, 8] (.seq (.ops [⟨some 9, .bin .lss (.t 8) (.t 7), none⟩])
 (.seq (.cond (.t 9) .skip (.exit 0))
 (.seq (.block 1 (.seq (.ops [⟨some 10, .ix 1 (.t 6) (.t 8), none⟩,
  ⟨some 11, .ld 1 false (.t 10), none⟩,
  ⟨some 5, .mv (.t 11), none⟩])
 (.ops [⟨some 12, .mv (.t 5), none⟩,
  ⟨some 13, .bin .quo (.t 12) (.k (.int .u8 64)), none⟩,
  ⟨some 14, .ia 4 1 false (.t 3) (.t 13), none⟩,
  ⟨some 15, .ldp 1 false (.t 14), none⟩,
  ⟨some 16, .mv (.t 5), none⟩,
  ⟨some 17, .bin .rem (.t 16) (.k (.int .u8 64)), none⟩,
  ⟨some 18, .bin .shl (.k (.int .u64 1)) (.t 17), none⟩,
  ⟨some 19, .bin .or (.t 15) (.t 18), none⟩,
  ⟨some 20, .ia 4 1 false (.t 3) (.t 13), none⟩,
  ⟨none, .st 1 (.t 20) (.t 19), none⟩])))
 (.ops [⟨some 21, .bin .add (.t 8) (.k (.int .i64 1)), none⟩,
  ⟨some 8, .mv (.t 21), none⟩])))))))
 (.seq (.ops [⟨some 22, .ldl 4 true 3, none⟩,
  ⟨none, .st 4 (.t 2) (.t 22), none⟩])
 .ret)))), [.cell 2 4 true], true⟩
/-- eyot/eyotplay.Text -/
def a42 : AFn := ⟨1, (.seq (.ops [⟨some 2, .mv (.k (.str [])), none⟩])
 (.seq (.ops [⟨some 4, .call 43 [], none⟩,
  ⟨some 3, .mv (.t 4), none⟩])
 (.seq (.ops [⟨some 5, .mv (.t 3), none⟩,
  ⟨some 6, .mv (.t 0), none⟩,
  ⟨some 7, .cvi .i64 (.t 6), none⟩,
  ⟨some 8, .mv (.t 3), none⟩,
  ⟨some 9, .len (.t 8), none⟩,
  ⟨some 10, .bin .rem (.t 7) (.t 9), none⟩,
  ⟨some 11, .ix 1 (.t 5) (.t 10), none⟩,
  ⟨some 12, .ld 1 false (.t 11), none⟩,
  ⟨some 2, .mv (.t 12), none⟩])
 .ret))), [.tmp 2], true⟩
/-- eyot/eyotplay.texts -/
def a43 : AFn := ⟨0, (.seq (.ops [⟨some 0, .mv (.k (.list true [])), none⟩])
 (.seq (.ops [⟨some 1, .mkl (.str []) 5 [(0, (.k (.str [116, 111, 107, 101, 110, 32, 97, 32, 61, 32, 97, 10, 116, 111, 107, 101, 110, 32, 98, 32, 61, 32, 98, 10, 116, 114, 105, 118, 105, 97, 32, 119, 32, 61, 32, 92, 120, 50, 48, 10, 115, 99, 111, 112, 101, 32, 104, 111, 116, 32, 61, 32, 49, 46, 53, 10, 115, 99, 111, 112, 101, 32, 111, 100, 100, 32, 61, 32, 110, 97, 110, 10, 114, 117, 108, 101, 32, 115, 32, 61, 32, 97, 32, 116, 32, 98, 32, 58, 32, 104, 111, 116, 10, 114, 117, 108, 101, 32, 116, 32, 61, 32, 115, 32, 58, 32, 111, 100, 100, 10, 114, 117, 108, 101, 32, 116, 32, 61, 10, 115, 121, 110, 99, 32, 92, 120, 48, 97, 32, 124, 10, 109, 97, 120, 32, 49, 50, 10]))), (1, (.k (.str [116, 111, 107, 101, 110, 32, 110, 32, 61, 32, 91, 48, 45, 50, 93, 43, 10, 116, 111, 107, 101, 110, 32, 109, 32, 61, 32, 92, 45, 10, 116, 114, 105, 118, 105, 97, 32, 119, 32, 61, 32, 91, 92, 120, 50, 48, 93, 43, 10, 115, 99, 111, 112, 101, 32, 120, 32, 61, 32, 48, 46, 50, 53, 10, 115, 99, 111, 112, 101, 32, 121, 32, 61, 32, 45, 105, 110, 102, 10, 115, 99, 111, 112, 101, 32, 122, 32, 61, 32, 105, 110, 102, 10, 114, 117, 108, 101, 32, 115, 32, 61, 32, 115, 32, 109, 32, 102, 32, 58, 32, 120, 10, 114, 117, 108, 101, 32, 115, 32, 61, 32, 102, 10, 114, 117, 108, 101, 32, 102, 32, 61, 32, 110, 32, 58, 32, 121, 10, 114, 117, 108, 101, 32, 102, 32, 61, 32, 109, 32, 102, 32, 58, 32, 122, 10, 115, 121, 110, 99, 32, 124, 32, 92, 120, 48, 97, 10, 109, 97, 120, 32, 49, 48, 10]))), (2, (.k (.str [116, 111, 107, 101, 110, 32, 97, 32, 61, 32, 97, 43, 10, 116, 111, 107, 101, 110, 32, 98, 32, 61, 32, 98, 40, 97, 124, 98, 41, 42, 10, 115, 99, 111, 112, 101, 32, 104, 32, 61, 32, 45, 48, 10, 114, 117, 108, 101, 32, 115, 32, 61, 32, 97, 32, 58, 32, 104, 10, 114, 117, 108, 101, 32, 115, 32, 61, 32, 98, 10, 115, 121, 110, 99, 32, 92, 120, 48, 97, 32, 124, 32, 46, 10, 109, 97, 120, 32, 57, 10]))), (3, (.k (.str [116, 111, 107, 101, 110, 32, 113, 32, 61, 32, 92, 120, 50, 50, 91, 94, 92, 120, 50, 50, 92, 120, 48, 97, 93, 42, 92, 120, 50, 50, 10, 116, 111, 107, 101, 110, 32, 99, 32, 61, 32, 58, 10, 116, 111, 107, 101, 110, 32, 108, 32, 61, 32, 92, 120, 55, 98, 10, 116, 111, 107, 101, 110, 32, 114, 32, 61, 32, 92, 120, 55, 100, 10, 116, 111, 107, 101, 110, 32, 107, 32, 61, 32, 44, 10, 116, 114, 105, 118, 105, 97, 32, 119, 32, 61, 32, 92, 120, 50, 48, 10, 115, 99, 111, 112, 101, 32, 107, 101, 121, 32, 61, 32, 48, 46, 53, 10, 115, 99, 111, 112, 101, 32, 111, 98, 106, 32, 61, 32, 50, 10, 114, 117, 108, 101, 32, 111, 32, 61, 32, 108, 32, 114, 32, 58, 32, 111, 98, 106, 10, 114, 117, 108, 101, 32, 111, 32, 61, 32, 108, 32, 109, 32, 114, 32, 58, 32, 111, 98, 106, 10, 114, 117, 108, 101, 32, 109, 32, 61, 32, 112, 10, 114, 117, 108, 101, 32, 109, 32, 61, 32, 109, 32, 107, 32, 112, 10, 114, 117, 108, 101, 32, 112, 32, 61, 32, 121, 32, 99, 32, 118, 10, 114, 117, 108, 101, 32, 121, 32, 61, 32, 113, 32, 58, 32, 107, 101, 121, 10, 114, 117, 108, 101, 32, 118, 32, 61, 32, 113, 10, 114, 117, 108, 101, 32, 118, 32, 61, 32, 111, 10, 115, 121, 110, 99, 32, 92, 120, 48, 97, 32, 124, 32, 91, 97, 45, 122, 93, 10, 109, 97, 120, 32, 50, 52, 10]))), (4, (.k (.str [116, 111, 107, 101, 110, 32, 97, 116, 32, 61, 32, 97, 116, 10, 116, 111, 107, 101, 110, 32, 100, 32, 61, 32, 92, 46, 10, 116, 111, 107, 101, 110, 32, 110, 32, 61, 32, 91, 97, 45, 122, 93, 43, 10, 116, 114, 105, 118, 105, 97, 32, 116, 32, 61, 32, 92, 120, 48, 97, 92, 120, 50, 48, 42, 10, 115, 99, 111, 112, 101, 32, 102, 32, 61, 32, 51, 10, 114, 117, 108, 101, 32, 115, 32, 61, 32, 97, 116, 32, 112, 10, 114, 117, 108, 101, 32, 115, 32, 61, 32, 115, 32, 97, 116, 32, 112, 32, 58, 32, 102, 10, 114, 117, 108, 101, 32, 112, 32, 61, 32, 110, 10, 114, 117, 108, 101, 32, 112, 32, 61, 32, 112, 32, 100, 32, 110, 10, 115, 121, 110, 99, 32, 92, 120, 48, 97, 32, 124, 32, 91, 48, 45, 57, 93, 10, 109, 97, 120, 32, 50, 48, 10])))], none⟩,
  ⟨some 0, .mv (.t 1), none⟩])
 (.seq (.ops [⟨none, .frz (.sl .no) 0, none⟩]) .ret))), [.tmp 0], true⟩
/-- math.NaN -/
def a44 : AFn := ⟨0, (.seq (.ops [⟨some 0, .mv (.k (.flt .f64 0)), none⟩])
 (.seq (.ops [⟨some 1, .nat 3 [(.k (.int .u64 9221120237041090561))], none⟩,
  ⟨some 0, .mv (.t 1), none⟩])
 .ret)), [.tmp 0], true⟩
/-- eyot/gram.May -/
def a45 : AFn := ⟨1, (.seq (.ops [⟨some 1, .bim 7 (.t 0), none⟩,
  ⟨some 2, .aob ([.int .i64 0]), none⟩,
  ⟨some 3, .aob ([.int .i64 0]), none⟩])
 (.dfr 4 103 [(.t 2), (.t 3)] 5 (.seq (.ops [⟨some 5, .ldi 7 true (.t 1), none⟩,
  ⟨some 6, .call 84 [(.t 5)], none⟩])
 (.seq (.ops [⟨some 7, .ldi 7 true (.t 1), none⟩,
  ⟨some 8, .call 62 [(.t 7)], none⟩])
 (.seq (.ops [⟨some 9, .ldi 7 true (.t 1), none⟩,
  ⟨some 10, .call 54 [(.t 9)], none⟩])
 (.seq (.ops [⟨some 11, .ldi 7 true (.t 1), none⟩,
  ⟨some 12, .call 59 [(.t 11)], none⟩])
 (.seq (.ops [⟨some 13, .ldi 7 true (.t 1), none⟩,
  ⟨some 14, .call 58 [(.t 13)], none⟩])
 (.seq (.ops [⟨some 15, .ldi 7 true (.t 1), none⟩,
  ⟨some 16, .call 61 [(.t 15)], none⟩])
 (.seq (.ops [⟨some 17, .fa 6 1 false (.t 1), none⟩,
  ⟨some 18, .ldi 1 false (.t 17), none⟩,
  ⟨some 19, .bin .geq (.t 18) (.k (.int .i64 1)), none⟩,
  ⟨some 20, .mv (.t 19), none⟩,
  ⟨some 21, .fa 6 1 false (.t 1), some (20, true)⟩,
  ⟨some 22, .ldi 1 false (.t 21), some (20, true)⟩,
  ⟨some 23, .bin .leq (.t 22) (.k (.int .i64 60)), some (20, true)⟩,
  ⟨some 24, .pick (.t 20) (.t 23) (.k (.bool false)), none⟩,
  ⟨some 25, .call 53 [(.t 24), (.k (.int .i64 0))], none⟩])
 (.seq (.ops [⟨some 26, .fa 0 1 false (.t 1), none⟩,
  ⟨some 27, .ldi 1 false (.t 26), none⟩,
  ⟨some 28, .call 78 [(.t 27), (.k (.fn 47 []))], none⟩,
  ⟨some 29, .call 53 [(.t 28), (.k (.int .i64 0))], none⟩])
 (.seq (.ops [⟨none, .st 1 (.t 2) (.k (.int .i64 0)), none⟩,
  ⟨none, .st 1 (.t 3) (.k (.int .i64 0)), none⟩])
 .ret)))))))))
 (.seq (.ops [⟨some 6, .tas 4 (.agg ([.int .i64 0])) true (.t 5), none⟩,
  ⟨some 4, .mv (.t 6), none⟩,
  ⟨some 7, .ext 0 (.t 4), none⟩,
  ⟨some 8, .ext 1 (.t 4), none⟩,
  ⟨some 2, .alv ([.int .i64 0]), none⟩,
  ⟨none, .st 1 (.t 2) (.t 7), none⟩,
  ⟨some 3, .mv (.t 8), none⟩])
 (.seq (.ops [⟨some 9, .mv (.t 3), none⟩])
 (.cond (.t 9) (.ops [⟨some 10, .fa 0 1 false (.t 2), none⟩,
  ⟨some 11, .ldp 1 false (.t 10), none⟩,
  ⟨none, .st 1 (.t 0) (.t 11), none⟩,
  ⟨none, .st 1 (.t 1) (.k (.int .i64 5)), none⟩]) .skip))))), [.cell 2 1 false, .cell 3 1 false], true⟩
/-- eyot/gram.Left -/
def a46 : AFn := ⟨2, (.seq (.ops [⟨some 2, .bim 7 (.t 0), none⟩,
  ⟨some 4, .mv (.k (.int .i64 0)), none⟩])
 (.seq (.ops [⟨some 5, .fa 1 1 false (.t 2), none⟩,
  ⟨some 6, .ldi 1 false (.t 5), none⟩,
  ⟨some 7, .mv (.t 1), none⟩,
  ⟨some 8, .call 18 [(.t 6), (.t 7)], none⟩,
  ⟨some 4, .mv (.t 8), none⟩])
 .ret)), [.tmp 4], true⟩
/-- eyot/gram.May$2 -/
def a47 : AFn := ⟨1, (.seq (.ops [⟨some 1, .bim 8 (.t 0), none⟩,
  ⟨some 2, .mv (.k (.bool false)), none⟩])
 (.seq (.ops [⟨some 3, .fa 7 1 false (.t 1), none⟩,
  ⟨some 4, .ldi 1 false (.t 3), none⟩,
  ⟨some 5, .un .not (.t 4), none⟩,
  ⟨some 2, .mv (.t 5), none⟩])
 .ret)), [.tmp 2], true⟩
/-- eyot/gram.Name -/
def a48 : AFn := ⟨1, (.seq (.ops [⟨some 2, .mv (.k (.bool false)), none⟩])
 (.seq (.seq (.ops [⟨some 5, .mv (.t 0), none⟩,
  ⟨some 6, .lns (.t 5), none⟩,
  ⟨some 7, .bin .lss (.t 6) (.k (.int .i64 1)), none⟩,
  ⟨some 8, .mv (.t 7), none⟩,
  ⟨some 9, .mv (.t 0), some (8, false)⟩,
  ⟨some 10, .lns (.t 9), some (8, false)⟩,
  ⟨some 11, .bin .gtr (.t 10) (.k (.int .i64 12)), some (8, false)⟩,
  ⟨some 12, .pick (.t 8) (.k (.bool true)) (.t 11), none⟩,
  ⟨some 13, .mv (.t 12), none⟩,
  ⟨some 14, .mv (.t 0), some (13, false)⟩,
  ⟨some 15, .ixs (.t 14) (.k (.int .i64 0)), some (13, false)⟩,
  ⟨some 16, .bin .lss (.t 15) (.k (.int .u8 97)), some (13, false)⟩,
  ⟨some 17, .pick (.t 13) (.k (.bool true)) (.t 16), none⟩])
 (.cond (.t 17) (.seq (.ops [⟨some 2, .mv (.k (.bool false)), none⟩])
 .ret) .skip))
 (.seq (.seq (.ops [⟨some 18, .mv (.t 0), none⟩,
  ⟨some 19, .lns (.t 18), none⟩,
  ⟨some 20, .mv (.k (.int .i64 0)), none⟩])
 (.block 0 (.loop [0, 19, 20, 29, 30, 33, 34, 35, 36, 37, 38, 41, 42, 49, 50, 51] (.seq (.ops [⟨some 21, .bin .lss (.t 20) (.t 19), none⟩])
 (.seq (.cond (.t 21) .skip (.exit 0))
 (.seq (.block 1 (.seq (.ops [⟨some 22, .mv (.t 20), none⟩,
  ⟨some 3, .mv (.t 22), none⟩])
 (.seq (.ops [⟨some 23, .mv (.t 0), none⟩,
  ⟨some 24, .mv (.t 3), none⟩,
  ⟨some 25, .ixs (.t 23) (.t 24), none⟩,
  ⟨some 4, .mv (.t 25), none⟩])
 (.seq (.ops [⟨some 26, .mv (.t 4), none⟩,
  ⟨some 27, .bin .lss (.t 26) (.k (.int .u8 97)), none⟩,
  ⟨some 28, .mv (.t 27), none⟩,
  ⟨some 29, .mv (.t 4), some (28, false)⟩,
  ⟨some 30, .bin .gtr (.t 29) (.k (.int .u8 122)), some (28, false)⟩,
  ⟨some 31, .pick (.t 28) (.k (.bool true)) (.t 30), none⟩,
  ⟨some 32, .mv (.t 31), none⟩,
  ⟨some 33, .mv (.t 4), some (32, true)⟩,
  ⟨some 34, .bin .lss (.t 33) (.k (.int .u8 48)), some (32, true)⟩,
  ⟨some 35, .mv (.t 34), some (32, true)⟩,
  ⟨some 36, .mv (.t 4), some (35, false)⟩,
  ⟨some 37, .bin .gtr (.t 36) (.k (.int .u8 57)), some (35, false)⟩,
  ⟨some 38, .pick (.t 35) (.k (.bool true)) (.t 37), some (32, true)⟩,
  ⟨some 39, .pick (.t 32) (.t 38) (.k (.bool false)), none⟩,
  ⟨some 40, .mv (.t 39), none⟩,
  ⟨some 41, .mv (.t 4), some (40, true)⟩,
  ⟨some 42, .bin .neq (.t 41) (.k (.int .u8 95)), some (40, true)⟩,
  ⟨some 43, .pick (.t 40) (.t 42) (.k (.bool false)), none⟩])
 (.cond (.t 43) (.seq (.ops [⟨some 2, .mv (.k (.bool false)), none⟩])
 .ret) .skip)))))
 (.ops [⟨some 44, .bin .add (.t 20) (.k (.int .i64 1)), none⟩,
  ⟨some 20, .mv (.t 44), none⟩])))))))
 (.seq (.ops [⟨some 45, .mv (.t 0), none⟩,
  ⟨some 46, .ixs (.t 45) (.k (.int .i64 0)), none⟩,
  ⟨some 47, .bin .leq (.t 46) (.k (.int .u8 122)), none⟩,
  ⟨some 48, .mv (.t 47), none⟩,
  ⟨some 49, .mv (.t 0), some (48, true)⟩,
  ⟨some 50, .ixs (.t 49) (.k (.int .i64 0)), some (48, true)⟩,
  ⟨some 51, .bin .neq (.t 50) (.k (.int .u8 95)), some (48, true)⟩,
  ⟨some 52, .pick (.t 48) (.t 51) (.k (.bool false)), none⟩,
  ⟨some 2, .mv (.t 52), none⟩])
 .ret)))), [.tmp 2], true⟩
/-- eyot/gram.Scope$1 -/
def a49 : AFn := ⟨2, (.seq (.ops [⟨some 2, .bim 2 (.t 0), none⟩,
  ⟨some 3, .mv (.k (.bool false)), none⟩])
 (.seq (.ops [⟨some 4, .fa 0 1 false (.t 2), none⟩,
  ⟨some 5, .ldi 1 false (.t 4), none⟩,
  ⟨some 6, .ld 1 false (.t 1), none⟩,
  ⟨some 7, .bin .eql (.t 5) (.t 6), none⟩,
  ⟨some 3, .mv (.t 7), none⟩])
 .ret)), [.tmp 3], true⟩
/-- slices.IndexFunc[[]eyot/api.Scope,eyot/api.Scope] -/
def a50 : AFn := ⟨2, (.seq (.ops [⟨some 4, .mv (.k (.int .i64 0)), none⟩])
 (.seq (.seq (.ops [⟨some 6, .mv (.t 0), none⟩,
  ⟨some 7, .len (.t 6), none⟩,
  ⟨some 8, .mv (.k (.int .i64 0)), none⟩])
 (.block 0 (.loop [0, 1, 7, 8] (.seq (.ops [⟨some 9, .bin .lss (.t 8) (.t 7), none⟩])
 (.seq (.cond (.t 9) .skip (.exit 0))
 (.seq (.block 1 (.seq (.ops [⟨some 10, .mv (.t 8), none⟩,
  ⟨some 5, .mv (.t 10), none⟩])
 (.seq (.ops [⟨some 11, .mv (.t 1), none⟩,
  ⟨some 12, .mv (.t 0), none⟩,
  ⟨some 13, .mv (.t 5), none⟩,
  ⟨some 14, .ix 2 (.t 12) (.t 13), none⟩,
  ⟨some 15, .ld 2 true (.t 14), none⟩,
  ⟨some 16, .callv (.t 11) [(.t 15)], none⟩])
 (.cond (.t 16) (.seq (.ops [⟨some 17, .mv (.t 5), none⟩,
  ⟨some 4, .mv (.t 17), none⟩])
 .ret) .skip))))
 (.ops [⟨some 18, .bin .add (.t 8) (.k (.int .i64 1)), none⟩,
  ⟨some 8, .mv (.t 18), none⟩])))))))
 (.seq (.ops [⟨some 4, .mv (.k (.int .i64 (-1))), none⟩])
 .ret))), [.tmp 4], true⟩
/-- eyot/gram.Token$1 -/
def a51 : AFn := ⟨2, (.seq (.ops [⟨some 2, .bim 8 (.t 0), none⟩,
  ⟨some 3, .mv (.k (.bool false)), none⟩])
 (.seq (.ops [⟨some 4, .fa 0 1 false (.t 2), none⟩,
  ⟨some 5, .ldi 1 false (.t 4), none⟩,
  ⟨some 6, .ld 1 false (.t 1), none⟩,
  ⟨some 7, .bin .eql (.t 5) (.t 6), none⟩,
  ⟨some 3, .mv (.t 7), none⟩])
 .ret)), [.tmp 3], true⟩
/-- slices.IndexFunc[[]eyot/api.Token,eyot/api.Token] -/
def a52 : AFn := ⟨2, (.seq (.ops [⟨some 4, .mv (.k (.int .i64 0)), none⟩])
 (.seq (.seq (.ops [⟨some 6, .mv (.t 0), none⟩,
  ⟨some 7, .len (.t 6), none⟩,
  ⟨some 8, .mv (.k (.int .i64 0)), none⟩])
 (.block 0 (.loop [0, 1, 7, 8] (.seq (.ops [⟨some 9, .bin .lss (.t 8) (.t 7), none⟩])
 (.seq (.cond (.t 9) .skip (.exit 0))
 (.seq (.block 1 (.seq (.ops [⟨some 10, .mv (.t 8), none⟩,
  ⟨some 5, .mv (.t 10), none⟩])
 (.seq (.ops [⟨some 11, .mv (.t 1), none⟩,
  ⟨some 12, .mv (.t 0), none⟩,
  ⟨some 13, .mv (.t 5), none⟩,
  ⟨some 14, .ix 8 (.t 12) (.t 13), none⟩,
  ⟨some 15, .ld 8 true (.t 14), none⟩,
  ⟨some 16, .callv (.t 11) [(.t 15)], none⟩])
 (.cond (.t 16) (.seq (.ops [⟨some 17, .mv (.t 5), none⟩,
  ⟨some 4, .mv (.t 17), none⟩])
 .ret) .skip))))
 (.ops [⟨some 18, .bin .add (.t 8) (.k (.int .i64 1)), none⟩,
  ⟨some 8, .mv (.t 18), none⟩])))))))
 (.seq (.ops [⟨some 4, .mv (.k (.int .i64 (-1))), none⟩])
 .ret))), [.tmp 4], true⟩
/-- eyot/gram.must -/
def a53 : AFn := ⟨2, (.seq (.ops [⟨some 4, .mv (.t 0), none⟩,
  ⟨some 5, .un .not (.t 4), none⟩])
 (.cond (.t 5) (.ops [⟨some 6, .mv (.t 1), none⟩,
  ⟨some 7, .bld (.agg ([.int .i64 0])) [((0, 1), (.t 6))], none⟩,
  ⟨some 8, .mkif 4 (.t 7), none⟩,
  ⟨none, .pan (.t 8), none⟩]) .skip)), [], true⟩
/-- eyot/gram.names -/
def a54 : AFn := ⟨1, (.seq (.ops [⟨some 1, .bim 7 (.t 0), none⟩])
 (.seq (.ops [⟨some 4, .fa 1 1 false (.t 1), none⟩,
  ⟨some 5, .ldi 1 false (.t 4), none⟩,
  ⟨some 6, .len (.t 5), none⟩,
  ⟨some 7, .mv (.k (.int .i64 0)), none⟩])
 (.block 0 (.loop [1, 5, 6, 7, 15, 16, 17, 18, 21, 22, 23, 24, 25] (.seq (.ops [⟨some 8, .bin .lss (.t 7) (.t 6), none⟩])
 (.seq (.cond (.t 8) .skip (.exit 0))
 (.seq (.block 1 (.seq (.ops [⟨some 9, .mv (.t 7), none⟩,
  ⟨some 10, .ix 1 (.t 5) (.t 7), none⟩,
  ⟨some 11, .ld 1 false (.t 10), none⟩,
  ⟨some 2, .mv (.t 9), none⟩,
  ⟨some 3, .mv (.t 11), none⟩])
 (.ops [⟨some 12, .mv (.t 3), none⟩,
  ⟨some 13, .call 48 [(.t 12)], none⟩,
  ⟨some 14, .mv (.t 13), none⟩,
  ⟨some 15, .ldi 7 true (.t 1), some (14, true)⟩,
  ⟨some 16, .mv (.t 3), some (14, true)⟩,
  ⟨some 17, .call 25 [(.t 15), (.t 16)], some (14, true)⟩,
  ⟨some 18, .bin .lss (.t 17) (.k (.int .i64 0)), some (14, true)⟩,
  ⟨some 19, .pick (.t 14) (.t 18) (.k (.bool false)), none⟩,
  ⟨some 20, .mv (.t 19), none⟩,
  ⟨some 21, .ldi 7 true (.t 1), some (20, true)⟩,
  ⟨some 22, .mv (.t 3), some (20, true)⟩,
  ⟨some 23, .call 46 [(.t 21), (.t 22)], some (20, true)⟩,
  ⟨some 24, .mv (.t 2), some (20, true)⟩,
  ⟨some 25, .bin .eql (.t 23) (.t 24), some (20, true)⟩,
  ⟨some 26, .pick (.t 20) (.t 25) (.k (.bool false)), none⟩,
  ⟨some 27, .mv (.t 2), none⟩,
  ⟨some 28, .call 53 [(.t 26), (.t 27)], none⟩])))
 (.ops [⟨some 29, .bin .add (.t 7) (.k (.int .i64 1)), none⟩,
  ⟨some 7, .mv (.t 29), none⟩])))))))), [], true⟩
/-- eyot/gram.symbol -/
def a55 : AFn := ⟨2, (.seq (.ops [⟨some 2, .bim 7 (.t 0), none⟩,
  ⟨some 4, .mv (.k (.bool false)), none⟩])
 (.seq (.seq (.ops [⟨some 6, .mv (.t 1), none⟩,
  ⟨some 7, .bin .geq (.t 6) (.k (.int .i64 0)), none⟩])
 (.cond (.t 7) (.seq (.ops [⟨some 8, .mv (.t 1), none⟩,
  ⟨some 9, .fa 1 1 false (.t 2), none⟩,
  ⟨some 10, .ldi 1 false (.t 9), none⟩,
  ⟨some 11, .len (.t 10), none⟩,
  ⟨some 12, .bin .lss (.t 8) (.t 11), none⟩,
  ⟨some 4, .mv (.t 12), none⟩])
 .ret) .skip))
 (.seq (.ops [⟨some 13, .mv (.t 1), none⟩,
  ⟨some 14, .bin .sub (.k (.int .i64 (-1))) (.t 13), none⟩,
  ⟨some 5, .mv (.t 14), none⟩])
 (.seq (.ops [⟨some 15, .mv (.t 5), none⟩,
  ⟨some 16, .fa 0 1 false (.t 2), none⟩,
  ⟨some 17, .ldi 1 false (.t 16), none⟩,
  ⟨some 18, .len (.t 17), none⟩,
  ⟨some 19, .bin .lss (.t 15) (.t 18), none⟩,
  ⟨some 20, .mv (.t 19), none⟩,
  ⟨some 21, .fa 0 1 false (.t 2), some (20, true)⟩,
  ⟨some 22, .ldi 1 false (.t 21), some (20, true)⟩,
  ⟨some 23, .mv (.t 5), some (20, true)⟩,
  ⟨some 24, .ix 8 (.t 22) (.t 23), some (20, true)⟩,
  ⟨some 25, .fa 7 1 false (.t 24), some (20, true)⟩,
  ⟨some 26, .ld 1 false (.t 25), some (20, true)⟩,
  ⟨some 27, .un .not (.t 26), some (20, true)⟩,
  ⟨some 28, .pick (.t 20) (.t 27) (.k (.bool false)), none⟩,
  ⟨some 4, .mv (.t 28), none⟩])
 .ret)))), [.tmp 4], true⟩
/-- eyot/gram.rules$1 -/
def a56 : AFn := ⟨2, (.seq (.ops [⟨some 2, .bim 3 (.t 0), none⟩,
  ⟨some 3, .mv (.k (.bool false)), none⟩])
 (.seq (.ops [⟨some 4, .fa 0 1 false (.t 2), none⟩,
  ⟨some 5, .ldi 1 false (.t 4), none⟩,
  ⟨some 6, .ld 1 false (.t 1), none⟩,
  ⟨some 7, .bin .eql (.t 5) (.t 6), none⟩,
  ⟨some 3, .mv (.t 7), none⟩])
 .ret)), [.tmp 3], true⟩
/-- slices.ContainsFunc[[]eyot/api.Rule,eyot/api.Rule] -/
def a57 : AFn := ⟨2, (.seq (.ops [⟨some 4, .mv (.k (.bool false)), none⟩])
 (.seq (.ops [⟨some 5, .mv (.t 0), none⟩,
  ⟨some 6, .mv (.t 1), none⟩,
  ⟨some 7, .call 77 [(.t 5), (.t 6)], none⟩,
  ⟨some 8, .bin .geq (.t 7) (.k (.int .i64 0)), none⟩,
  ⟨some 4, .mv (.t 8), none⟩])
 .ret)), [.tmp 4], true⟩
/-- eyot/gram.rules -/
def a58 : AFn := ⟨1, (.seq (.ops [⟨some 1, .bim 7 (.t 0), none⟩])
 (.seq (.seq (.ops [⟨some 7, .fa 3 1 false (.t 1), none⟩,
  ⟨some 8, .ldi 1 false (.t 7), none⟩,
  ⟨some 9, .len (.t 8), none⟩,
  ⟨some 10, .mv (.k (.int .i64 0)), none⟩])
 (.block 0 (.loop [1, 8, 9, 10, 19, 20, 21, 22, 23, 24, 27, 28, 29, 30, 33, 34, 35, 38, 39, 40, 41, 42, 43] (.seq (.ops [⟨some 11, .bin .lss (.t 10) (.t 9), none⟩])
 (.seq (.cond (.t 11) .skip (.exit 0))
 (.seq (.block 1 (.seq (.ops [⟨some 12, .mv (.t 10), none⟩,
  ⟨some 13, .ix 3 (.t 8) (.t 10), none⟩,
  ⟨some 14, .ld 3 true (.t 13), none⟩,
  ⟨some 3, .alv ([.int .i64 0, .list true [], .int .i64 0]), none⟩,
  ⟨some 2, .mv (.t 12), none⟩,
  ⟨none, .st 3 (.t 3) (.t 14), none⟩])
 (.seq (.ops [⟨some 15, .fa 0 1 false (.t 3), none⟩,
  ⟨some 16, .ldp 1 false (.t 15), none⟩,
  ⟨some 17, .bin .geq (.t 16) (.k (.int .i64 0)), none⟩,
  ⟨some 18, .mv (.t 17), none⟩,
  ⟨some 19, .fa 0 1 false (.t 3), some (18, true)⟩,
  ⟨some 20, .ldp 1 false (.t 19), some (18, true)⟩,
  ⟨some 21, .fa 1 1 false (.t 1), some (18, true)⟩,
  ⟨some 22, .ldi 1 false (.t 21), some (18, true)⟩,
  ⟨some 23, .len (.t 22), some (18, true)⟩,
  ⟨some 24, .bin .lss (.t 20) (.t 23), some (18, true)⟩,
  ⟨some 25, .pick (.t 18) (.t 24) (.k (.bool false)), none⟩,
  ⟨some 26, .mv (.t 25), none⟩,
  ⟨some 27, .fa 1 1 false (.t 3), some (26, true)⟩,
  ⟨some 28, .ldp 1 false (.t 27), some (26, true)⟩,
  ⟨some 29, .len (.t 28), some (26, true)⟩,
  ⟨some 30, .bin .leq (.t 29) (.k (.int .i64 6)), some (26, true)⟩,
  ⟨some 31, .pick (.t 26) (.t 30) (.k (.bool false)), none⟩,
  ⟨some 32, .mv (.t 31), none⟩,
  ⟨some 33, .fa 2 1 false (.t 3), some (32, true)⟩,
  ⟨some 34, .ldp 1 false (.t 33), some (32, true)⟩,
  ⟨some 35, .bin .geq (.t 34) (.k (.int .i64 (-1))), some (32, true)⟩,
  ⟨some 36, .pick (.t 32) (.t 35) (.k (.bool false)), none⟩,
  ⟨some 37, .mv (.t 36), none⟩,
  ⟨some 38, .fa 2 1 false (.t 3), some (37, true)⟩,
  ⟨some 39, .ldp 1 false (.t 38), some (37, true)⟩,
  ⟨some 40, .fa 2 1 false (.t 1), some (37, true)⟩,
  ⟨some 41, .ldi 1 false (.t 40), some (37, true)⟩,
  ⟨some 42, .len (.t 41), some (37, true)⟩,
  ⟨some 43, .bin .lss (.t 39) (.t 42), some (37, true)⟩,
  ⟨some 44, .pick (.t 37) (.t 43) (.k (.bool false)), none⟩,
  ⟨some 45, .mv (.t 2), none⟩,
  ⟨some 46, .call 53 [(.t 44), (.t 45)], none⟩])
 (.seq (.ops [⟨some 47, .fa 1 1 false (.t 3), none⟩,
  ⟨some 48, .ldp 1 false (.t 47), none⟩,
  ⟨some 49, .len (.t 48), none⟩,
  ⟨some 50, .mv (.k (.int .i64 0)), none⟩])
 (.block 2 (.loop [1, 2, 8, 9, 10, 19, 20, 21, 22, 23, 24, 27, 28, 29, 30, 33, 34, 35, 38, 39, 40, 41, 42, 43, 48, 49, 50] (.seq (.ops [⟨some 51, .bin .lss (.t 50) (.t 49), none⟩])
 (.seq (.cond (.t 51) .skip (.exit 2))
 (.seq (.block 3 (.seq (.ops [⟨some 52, .ix 1 (.t 48) (.t 50), none⟩,
  ⟨some 53, .ld 1 false (.t 52), none⟩,
  ⟨some 5, .mv (.t 53), none⟩])
 (.ops [⟨some 54, .ldi 7 true (.t 1), none⟩,
  ⟨some 55, .mv (.t 5), none⟩,
  ⟨some 56, .call 55 [(.t 54), (.t 55)], none⟩,
  ⟨some 57, .mv (.t 2), none⟩,
  ⟨some 58, .call 53 [(.t 56), (.t 57)], none⟩])))
 (.ops [⟨some 59, .bin .add (.t 50) (.k (.int .i64 1)), none⟩,
  ⟨some 50, .mv (.t 59), none⟩]))))))))))
 (.ops [⟨some 60, .bin .add (.t 10) (.k (.int .i64 1)), none⟩,
  ⟨some 10, .mv (.t 60), none⟩])))))))
 (.seq (.seq (.ops [⟨some 61, .fa 1 1 false (.t 1), none⟩,
  ⟨some 62, .ldi 1 false (.t 61), none⟩,
  ⟨some 63, .len (.t 62), none⟩,
  ⟨some 64, .mv (.k (.int .i64 0)), none⟩])
 (.block 4 (.loop [1, 63, 64] (.seq (.ops [⟨some 65, .bin .lss (.t 64) (.t 63), none⟩])
 (.seq (.cond (.t 65) .skip (.exit 4))
 (.seq (.block 5 (.seq (.ops [⟨some 66, .mv (.t 64), none⟩,
  ⟨some 6, .aob ([.int .i64 0]), none⟩,
  ⟨none, .st 1 (.t 6) (.t 66), none⟩])
 (.dops [⟨some 67, .fa 3 1 false (.t 1), none⟩,
  ⟨some 68, .ldi 1 false (.t 67), none⟩,
  ⟨some 69, .mkfn 56 [(.t 6)], none⟩,
  ⟨some 70, .call 57 [(.t 68), (.t 69)], none⟩,
  ⟨some 71, .ldo 1 false (.t 6), none⟩,
  ⟨some 72, .call 53 [(.t 70), (.t 71)], none⟩])))
 (.ops [⟨some 73, .bin .add (.t 64) (.k (.int .i64 1)), none⟩,
  ⟨some 64, .mv (.t 73), none⟩])))))))
 (.ops [⟨some 74, .fa 3 1 false (.t 1), none⟩,
  ⟨some 75, .ldi 1 false (.t 74), none⟩,
  ⟨some 76, .ix 3 (.t 75) (.k (.int .i64 0)), none⟩,
  ⟨some 77, .fa 0 1 false (.t 76), none⟩,
  ⟨some 78, .ld 1 false (.t 77), none⟩,
  ⟨some 79, .bin .eql (.t 78) (.k (.int .i64 0)), none⟩,
  ⟨some 80, .call 53 [(.t 79), (.k (.int .i64 0))], none⟩])))), [], true⟩
/-- eyot/gram.scopes -/
def a59 : AFn := ⟨1, (.seq (.ops [⟨some 1, .bim 7 (.t 0), none⟩])
 (.seq (.ops [⟨some 6, .fa 2 1 false (.t 1), none⟩,
  ⟨some 7, .ldi 1 false (.t 6), none⟩,
  ⟨some 8, .len (.t 7), none⟩,
  ⟨some 9, .mv (.k (.int .i64 0)), none⟩])
 (.block 0 (.loop [1, 7, 8, 9, 24, 25, 26, 27, 28, 29, 32, 33] (.seq (.ops [⟨some 10, .bin .lss (.t 9) (.t 8), none⟩])
 (.seq (.cond (.t 10) .skip (.exit 0))
 (.seq (.block 1 (.seq (.ops [⟨some 11, .mv (.t 9), none⟩,
  ⟨some 12, .ix 2 (.t 7) (.t 9), none⟩,
  ⟨some 13, .ld 2 true (.t 12), none⟩,
  ⟨some 3, .alv ([.str [], .str []]), none⟩,
  ⟨some 2, .mv (.t 11), none⟩,
  ⟨none, .st 2 (.t 3) (.t 13), none⟩])
 (.seq (.ops [⟨some 15, .fa 1 1 false (.t 3), none⟩,
  ⟨some 16, .ldp 1 false (.t 15), none⟩,
  ⟨some 17, .call 23 [(.t 16)], none⟩,
  ⟨some 14, .mv (.t 17), none⟩,
  ⟨some 18, .ext 0 (.t 14), none⟩,
  ⟨some 19, .ext 1 (.t 14), none⟩,
  ⟨some 4, .mv (.t 18), none⟩,
  ⟨some 5, .mv (.t 19), none⟩])
 (.ops [⟨some 20, .fa 0 1 false (.t 3), none⟩,
  ⟨some 21, .ldp 1 false (.t 20), none⟩,
  ⟨some 22, .call 48 [(.t 21)], none⟩,
  ⟨some 23, .mv (.t 22), none⟩,
  ⟨some 24, .ldi 7 true (.t 1), some (23, true)⟩,
  ⟨some 25, .fa 0 1 false (.t 3), some (23, true)⟩,
  ⟨some 26, .ldp 1 false (.t 25), some (23, true)⟩,
  ⟨some 27, .call 19 [(.t 24), (.t 26)], some (23, true)⟩,
  ⟨some 28, .mv (.t 2), some (23, true)⟩,
  ⟨some 29, .bin .eql (.t 27) (.t 28), some (23, true)⟩,
  ⟨some 30, .pick (.t 23) (.t 29) (.k (.bool false)), none⟩,
  ⟨some 31, .mv (.t 30), none⟩,
  ⟨some 32, .mv (.t 5), some (31, true)⟩,
  ⟨some 33, .bin .eql (.t 32) (.k (.int .i64 0)), some (31, true)⟩,
  ⟨some 34, .pick (.t 31) (.t 33) (.k (.bool false)), none⟩,
  ⟨some 35, .mv (.t 2), none⟩,
  ⟨some 36, .call 53 [(.t 34), (.t 35)], none⟩]))))
 (.ops [⟨some 37, .bin .add (.t 9) (.k (.int .i64 1)), none⟩,
  ⟨some 9, .mv (.t 37), none⟩])))))))), [], true⟩
/-- slices.Concat[[]eyot/api.Set,eyot/api.Set] -/
def a60 : AFn := ⟨1, (.seq (.ops [⟨some 2, .mv (.k (.list true [])), none⟩])
 (.seq (.ops [⟨some 3, .mv (.k (.int .i64 0)), none⟩])
 (.seq (.seq (.ops [⟨some 9, .mv (.t 0), none⟩,
  ⟨some 10, .len (.t 9), none⟩,
  ⟨some 11, .mv (.k (.int .i64 0)), none⟩])
 (.block 0 (.loop [0, 3, 9, 10, 11] (.seq (.ops [⟨some 12, .bin .lss (.t 11) (.t 10), none⟩])
 (.seq (.cond (.t 12) .skip (.exit 0))
 (.seq (.block 1 (.seq (.ops [⟨some 13, .ix 1 (.t 9) (.t 11), none⟩,
  ⟨some 14, .ld 1 false (.t 13), none⟩,
  ⟨some 5, .mv (.t 14), none⟩])
 (.seq (.ops [⟨some 15, .mv (.t 3), none⟩,
  ⟨some 16, .mv (.t 5), none⟩,
  ⟨some 17, .len (.t 16), none⟩,
  ⟨some 18, .bin .add (.t 15) (.t 17), none⟩,
  ⟨some 3, .mv (.t 18), none⟩])
 (.seq (.ops [⟨some 19, .mv (.t 3), none⟩,
  ⟨some 20, .bin .lss (.t 19) (.k (.int .i64 0)), none⟩])
 (.cond (.t 20) (.ops [⟨some 21, .mkif 5 (.k (.str [108, 101, 110, 32, 111, 117, 116, 32, 111, 102, 32, 114, 97, 110, 103, 101])), none⟩,
  ⟨none, .pan (.t 21), none⟩]) .skip)))))
 (.ops [⟨some 22, .bin .add (.t 11) (.k (.int .i64 1)), none⟩,
  ⟨some 11, .mv (.t 22), none⟩])))))))
 (.seq (.ops [⟨some 23, .mv (.t 3), none⟩,
  ⟨some 24, .call 76 [(.k (.list true [])), (.t 23)], none⟩,
  ⟨some 6, .mv (.t 24), none⟩])
 (.seq (.seq (.ops [⟨some 25, .mv (.t 0), none⟩,
  ⟨some 26, .len (.t 25), none⟩,
  ⟨some 27, .mv (.k (.int .i64 0)), none⟩])
 (.block 2 (.loop [6, 25, 26, 27] (.seq (.ops [⟨some 28, .bin .lss (.t 27) (.t 26), none⟩])
 (.seq (.cond (.t 28) .skip (.exit 2))
 (.seq (.block 3 (.seq (.ops [⟨some 29, .ix 1 (.t 25) (.t 27), none⟩,
  ⟨some 30, .ld 1 false (.t 29), none⟩,
  ⟨some 8, .mv (.t 30), none⟩])
 (.ops [⟨some 31, .mv (.t 6), none⟩,
  ⟨some 32, .mv (.t 8), none⟩,
  ⟨some 33, .app 4 (.t 31) (.t 32), none⟩,
  ⟨some 6, .mv (.t 33), none⟩])))
 (.ops [⟨some 34, .bin .add (.t 27) (.k (.int .i64 1)), none⟩,
  ⟨some 27, .mv (.t 34), none⟩])))))))
 (.seq (.ops [⟨some 35, .mv (.t 6), none⟩,
  ⟨some 2, .mv (.t 35), none⟩])
 (.seq (.ops [⟨none, .frz (.sl .no) 2, none⟩]) .ret))))))), [.tmp 2], true⟩
/-- eyot/gram.sync -/
def a61 : AFn := ⟨1, (.seq (.ops [⟨some 1, .bim 7 (.t 0), none⟩])
 (.seq (.ops [⟨some 5, .fa 4 1 false (.t 1), none⟩,
  ⟨some 6, .ldi 1 false (.t 5), none⟩,
  ⟨some 7, .fa 5 1 false (.t 1), none⟩,
  ⟨some 8, .ldi 1 false (.t 7), none⟩,
  ⟨some 9, .mkl (.list true []) 2 [(0, (.t 6)), (1, (.t 8))], none⟩,
  ⟨some 10, .call 60 [(.t 9)], none⟩,
  ⟨some 2, .mv (.t 10), none⟩])
 (.seq (.ops [⟨some 11, .mv (.t 2), none⟩,
  ⟨some 12, .len (.t 11), none⟩,
  ⟨some 13, .bin .gtr (.t 12) (.k (.int .i64 0)), none⟩,
  ⟨some 14, .mv (.t 13), none⟩,
  ⟨some 15, .fa 4 1 false (.t 1), some (14, true)⟩,
  ⟨some 16, .ldi 1 false (.t 15), some (14, true)⟩,
  ⟨some 17, .len (.t 16), some (14, true)⟩,
  ⟨some 18, .fa 5 1 false (.t 1), some (14, true)⟩,
  ⟨some 19, .ldi 1 false (.t 18), some (14, true)⟩,
  ⟨some 20, .len (.t 19), some (14, true)⟩,
  ⟨some 21, .mnmx true (.t 17) (.t 20), some (14, true)⟩,
  ⟨some 22, .bin .leq (.t 21) (.k (.int .i64 3)), some (14, true)⟩,
  ⟨some 23, .pick (.t 14) (.t 22) (.k (.bool false)), none⟩,
  ⟨some 24, .call 53 [(.t 23), (.k (.int .i64 0))], none⟩])
 (.seq (.ops [⟨some 25, .mv (.t 2), none⟩,
  ⟨some 26, .len (.t 25), none⟩,
  ⟨some 27, .mv (.k (.int .i64 0)), none⟩])
 (.block 0 (.loop [25, 26, 27] (.seq (.ops [⟨some 28, .bin .lss (.t 27) (.t 26), none⟩])
 (.seq (.cond (.t 28) .skip (.exit 0))
 (.seq (.block 1 (.seq (.ops [⟨some 29, .mv (.t 27), none⟩,
  ⟨some 30, .ix 4 (.t 25) (.t 27), none⟩,
  ⟨some 31, .ld 4 true (.t 30), none⟩,
  ⟨some 4, .alv ([.int .u64 0, .int .u64 0, .int .u64 0, .int .u64 0]), none⟩,
  ⟨some 3, .mv (.t 29), none⟩,
  ⟨none, .st 4 (.t 4) (.t 31), none⟩])
 (.ops [⟨some 32, .ldl 4 true 4, none⟩,
  ⟨some 33, .bld (.agg ([.int .u64 0, .int .u64 0, .int .u64 0, .int .u64 0])) [], none⟩,
  ⟨some 34, .eq true (.agg [.i, .i, .i, .i]) (.t 32) (.t 33), none⟩,
  ⟨some 35, .mv (.t 3), none⟩,
  ⟨some 36, .call 53 [(.t 34), (.t 35)], none⟩])))
 (.ops [⟨some 37, .bin .add (.t 27) (.k (.int .i64 1)), none⟩,
  ⟨some 27, .mv (.t 37), none⟩])))))))))), [], true⟩
/-- eyot/gram.tokens -/
def a62 : AFn := ⟨1, (.seq (.ops [⟨some 1, .bim 7 (.t 0), none⟩])
 (.seq (.ops [⟨some 6, .fa 0 1 false (.t 1), none⟩,
  ⟨some 7, .ldi 1 false (.t 6), none⟩,
  ⟨some 8, .len (.t 7), none⟩,
  ⟨some 9, .mv (.k (.int .i64 0)), none⟩])
 (.block 0 (.loop [1, 7, 8, 9, 24, 25, 26, 27, 28, 29, 32, 33, 36, 37, 38] (.seq (.ops [⟨some 10, .bin .lss (.t 9) (.t 8), none⟩])
 (.seq (.cond (.t 10) .skip (.exit 0))
 (.seq (.block 1 (.seq (.ops [⟨some 11, .mv (.t 9), none⟩,
  ⟨some 12, .ix 8 (.t 7) (.t 9), none⟩,
  ⟨some 13, .ld 8 true (.t 12), none⟩,
  ⟨some 3, .alv ([.str [], .int .i64 0, .int .u64 0, .int .u64 0, .int .u64 0, .int .u64 0, .list true [], .bool false]), none⟩,
  ⟨some 2, .mv (.t 11), none⟩,
  ⟨none, .st 8 (.t 3) (.t 13), none⟩])
 (.seq (.ops [⟨some 15, .fa 1 6 true (.t 3), none⟩,
  ⟨some 16, .ldp 6 true (.t 15), none⟩,
  ⟨some 17, .call 2 [(.t 16)], none⟩,
  ⟨some 14, .mv (.t 17), none⟩,
  ⟨some 18, .ext 0 (.t 14), none⟩,
  ⟨some 19, .ext 1 (.t 14), none⟩,
  ⟨some 4, .alv ([.list true [], .list true [], .list true [], .list true [], .bool false]), none⟩,
  ⟨none, .st 5 (.t 4) (.t 18), none⟩,
  ⟨some 5, .mv (.t 19), none⟩])
 (.ops [⟨some 20, .fa 0 1 false (.t 3), none⟩,
  ⟨some 21, .ldp 1 false (.t 20), none⟩,
  ⟨some 22, .call 48 [(.t 21)], none⟩,
  ⟨some 23, .mv (.t 22), none⟩,
  ⟨some 24, .ldi 7 true (.t 1), some (23, true)⟩,
  ⟨some 25, .fa 0 1 false (.t 3), some (23, true)⟩,
  ⟨some 26, .ldp 1 false (.t 25), some (23, true)⟩,
  ⟨some 27, .call 25 [(.t 24), (.t 26)], some (23, true)⟩,
  ⟨some 28, .mv (.t 2), some (23, true)⟩,
  ⟨some 29, .bin .eql (.t 27) (.t 28), some (23, true)⟩,
  ⟨some 30, .pick (.t 23) (.t 29) (.k (.bool false)), none⟩,
  ⟨some 31, .mv (.t 30), none⟩,
  ⟨some 32, .mv (.t 5), some (31, true)⟩,
  ⟨some 33, .bin .eql (.t 32) (.k (.int .i64 0)), some (31, true)⟩,
  ⟨some 34, .pick (.t 31) (.t 33) (.k (.bool false)), none⟩,
  ⟨some 35, .mv (.t 34), none⟩,
  ⟨some 36, .fa 4 1 false (.t 4), some (35, true)⟩,
  ⟨some 37, .ldp 1 false (.t 36), some (35, true)⟩,
  ⟨some 38, .un .not (.t 37), some (35, true)⟩,
  ⟨some 39, .pick (.t 35) (.t 38) (.k (.bool false)), none⟩,
  ⟨some 40, .mv (.t 2), none⟩,
  ⟨some 41, .call 53 [(.t 39), (.t 40)], none⟩]))))
 (.ops [⟨some 42, .bin .add (.t 9) (.k (.int .i64 1)), none⟩,
  ⟨some 9, .mv (.t 42), none⟩])))))))), [], true⟩
/-- strings.Split -/
def a63 : AFn := ⟨2, (.seq (.ops [⟨some 4, .mv (.k (.list true [])), none⟩])
 (.seq (.ops [⟨some 5, .mv (.t 0), none⟩,
  ⟨some 6, .mv (.t 1), none⟩,
  ⟨some 7, .call 83 [(.t 5), (.t 6), (.k (.int .i64 0)), (.k (.int .i64 (-1)))], none⟩,
  ⟨some 4, .mv (.t 7), none⟩])
 (.seq (.ops [⟨none, .frz (.sl .no) 4, none⟩]) .ret))), [.tmp 4], true⟩
/-- slices.Contains[[]string,string] -/
def a64 : AFn := ⟨2, (.seq (.ops [⟨some 4, .mv (.k (.bool false)), none⟩])
 (.seq (.ops [⟨some 5, .mv (.t 0), none⟩,
  ⟨some 6, .mv (.t 1), none⟩,
  ⟨some 7, .call 18 [(.t 5), (.t 6)], none⟩,
  ⟨some 8, .bin .geq (.t 7) (.k (.int .i64 0)), none⟩,
  ⟨some 4, .mv (.t 8), none⟩])
 .ret)), [.tmp 4], true⟩
/-- (*eyot/gtext.reader).line -/
def a65 : AFn := ⟨2, (.seq (.ops [⟨some 4, .aob ([.bool false]), none⟩])
 (.dfr 7 100 [(.t 4)] 4 (.seq (.ops [⟨some 8, .mv (.t 1), none⟩,
  ⟨some 9, .call 63 [(.t 8), (.k (.str [32]))], none⟩,
  ⟨some 5, .mv (.t 9), none⟩])
 (.seq (.ops [⟨some 10, .mv (.t 5), none⟩,
  ⟨some 11, .call 64 [(.t 10), (.k (.str []))], none⟩,
  ⟨some 12, .un .not (.t 11), none⟩,
  ⟨some 13, .call 14 [(.t 12)], none⟩])
 (.seq (.ops [⟨some 14, .mv (.t 5), none⟩,
  ⟨some 15, .ix 1 (.t 14) (.k (.int .i64 0)), none⟩,
  ⟨some 16, .ld 1 false (.t 15), none⟩,
  ⟨some 17, .call 66 [(.t 16)], none⟩,
  ⟨some 6, .mv (.t 17), none⟩])
 (.seq (.ops [⟨some 18, .mv (.t 6), none⟩,
  ⟨some 19, .mv (.t 0), none⟩,
  ⟨some 20, .nilc (.t 19), none⟩,
  ⟨some 21, .fa 8 1 false (.t 20), none⟩,
  ⟨some 22, .ld 1 false (.t 21), none⟩,
  ⟨some 23, .bin .gtr (.t 18) (.t 22), none⟩,
  ⟨some 24, .mv (.t 23), none⟩,
  ⟨some 25, .mv (.t 6), some (24, false)⟩,
  ⟨some 26, .mv (.t 0), some (24, false)⟩,
  ⟨some 27, .nilc (.t 26), some (24, false)⟩,
  ⟨some 28, .fa 8 1 false (.t 27), some (24, false)⟩,
  ⟨some 29, .ld 1 false (.t 28), some (24, false)⟩,
  ⟨some 30, .bin .eql (.t 25) (.t 29), some (24, false)⟩,
  ⟨some 31, .mv (.t 30), some (24, false)⟩,
  ⟨some 32, .mv (.t 6), some (31, true)⟩,
  ⟨some 33, .bin .lss (.t 32) (.k (.int .i64 3)), some (31, true)⟩,
  ⟨some 34, .pick (.t 31) (.t 33) (.k (.bool false)), some (24, false)⟩,
  ⟨some 35, .pick (.t 24) (.k (.bool true)) (.t 34), none⟩,
  ⟨some 36, .call 14 [(.t 35)], none⟩])
 (.seq (.ops [⟨some 37, .mv (.t 0), none⟩,
  ⟨some 38, .mv (.t 6), none⟩,
  ⟨some 39, .nilc (.t 37), none⟩,
  ⟨some 40, .fa 8 1 false (.t 39), none⟩,
  ⟨none, .st 1 (.t 40) (.t 38), none⟩])
 (.seq (.seq (.ops [⟨some 41, .mv (.t 6), none⟩])
 (.block 0 (.seq (.ops [⟨some 46, .bin .eql (.t 41) (.k (.int .i64 0)), none⟩,
  ⟨some 45, .mv (.t 46), none⟩])
 (.cond (.t 45) (.ops [⟨some 47, .mv (.t 0), none⟩,
  ⟨some 48, .mv (.t 5), none⟩,
  ⟨some 49, .call 29 [(.t 47), (.t 48)], none⟩]) (.seq (.ops [⟨some 51, .bin .eql (.t 41) (.k (.int .i64 1)), none⟩,
  ⟨some 50, .mv (.t 51), none⟩])
 (.cond (.t 50) (.ops [⟨some 52, .mv (.t 0), none⟩,
  ⟨some 53, .mv (.t 5), none⟩,
  ⟨some 54, .call 24 [(.t 52), (.t 53)], none⟩]) (.seq (.ops [⟨some 56, .bin .eql (.t 41) (.k (.int .i64 2)), none⟩,
  ⟨some 55, .mv (.t 56), none⟩])
 (.cond (.t 55) (.ops [⟨some 57, .mv (.t 0), none⟩,
  ⟨some 58, .mv (.t 5), none⟩,
  ⟨some 59, .call 21 [(.t 57), (.t 58)], none⟩]) (.seq (.ops [⟨some 61, .bin .eql (.t 41) (.k (.int .i64 3)), none⟩,
  ⟨some 60, .mv (.t 61), none⟩])
 (.cond (.t 60) (.ops [⟨some 62, .mv (.t 0), none⟩,
  ⟨some 63, .mv (.t 5), none⟩,
  ⟨some 64, .call 27 [(.t 62), (.t 63)], none⟩]) (.ops [⟨some 42, .mv (.t 0), none⟩,
  ⟨some 43, .mv (.t 5), none⟩,
  ⟨some 44, .call 16 [(.t 42), (.t 43)], none⟩])))))))))))
 (.seq (.ops [⟨none, .st 1 (.t 4) (.k (.bool true)), none⟩])
 .ret)))))))
 (.seq (.ops [⟨some 5, .tas 1 (.agg ([])) true (.t 4), none⟩,
  ⟨some 3, .mv (.t 5), none⟩,
  ⟨some 6, .ext 0 (.t 3), none⟩,
  ⟨some 7, .ext 1 (.t 3), none⟩,
  ⟨some 1, .alv ([]), none⟩,
  ⟨none, .st0 (.t 1) (.t 6), none⟩,
  ⟨some 2, .mv (.t 7), none⟩])
 (.seq (.ops [⟨some 8, .mv (.t 2), none⟩])
 (.cond (.t 8) (.ops [⟨none, .st 1 (.t 0) (.k (.bool false)), none⟩]) .skip))))), [.cell 4 1 false], false⟩
/-- eyot/gtext.order -/
def a66 : AFn := ⟨1, (.seq (.ops [⟨some 2, .mv (.k (.int .i64 0)), none⟩])
 (.seq (.seq (.ops [⟨some 3, .mv (.t 0), none⟩])
 (.block 0 (.seq (.seq (.ops [⟨some 5, .bin .eql (.t 3) (.k (.str [116, 111, 107, 101, 110])), none⟩,
  ⟨some 4, .mv (.t 5), none⟩])
 (.cond (.t 4) .skip (.ops [⟨some 6, .bin .eql (.t 3) (.k (.str [116, 114, 105, 118, 105, 97])), none⟩,
  ⟨some 4, .mv (.t 6), none⟩])))
 (.cond (.t 4) (.seq (.ops [⟨some 2, .mv (.k (.int .i64 0)), none⟩])
 .ret) (.seq (.ops [⟨some 8, .bin .eql (.t 3) (.k (.str [115, 99, 111, 112, 101])), none⟩,
  ⟨some 7, .mv (.t 8), none⟩])
 (.cond (.t 7) (.seq (.ops [⟨some 2, .mv (.k (.int .i64 1)), none⟩])
 .ret) (.seq (.ops [⟨some 10, .bin .eql (.t 3) (.k (.str [114, 117, 108, 101])), none⟩,
  ⟨some 9, .mv (.t 10), none⟩])
 (.cond (.t 9) (.seq (.ops [⟨some 2, .mv (.k (.int .i64 2)), none⟩])
 .ret) (.seq (.ops [⟨some 12, .bin .eql (.t 3) (.k (.str [115, 121, 110, 99])), none⟩,
  ⟨some 11, .mv (.t 12), none⟩])
 (.cond (.t 11) (.seq (.ops [⟨some 2, .mv (.k (.int .i64 3)), none⟩])
 .ret) (.seq (.ops [⟨some 14, .bin .eql (.t 3) (.k (.str [109, 97, 120])), none⟩,
  ⟨some 13, .mv (.t 14), none⟩])
 (.cond (.t 13) (.seq (.ops [⟨some 2, .mv (.k (.int .i64 4)), none⟩])
 .ret) .skip))))))))))))
 (.seq (.ops [⟨some 2, .mv (.k (.int .i64 (-1))), none⟩])
 .ret))), [.tmp 2], true⟩
/-- eyot/gtext.Parse -/
def a67 : AFn := ⟨1, (.seq (.ops [⟨some 2, .alv (List.replicate 6 (.list true []) ++ [.int .i64 0]), none⟩,
  ⟨some 3, .mv (.k (.int .i64 0)), none⟩,
  ⟨some 4, .mv (.k (.int .i64 0)), none⟩])
 (.seq (.seq (.ops [⟨some 16, .mv (.t 0), none⟩,
  ⟨some 17, .lns (.t 16), none⟩,
  ⟨some 18, .bin .gtr (.t 17) (.k (.int .i64 1500)), none⟩])
 (.cond (.t 18) (.seq (.ops [⟨some 19, .bld (.agg (List.replicate 6 (.list true []) ++ [.int .i64 0])) [], none⟩,
  ⟨none, .st 7 (.t 2) (.t 19), none⟩,
  ⟨some 3, .mv (.k (.int .i64 0)), none⟩,
  ⟨some 4, .mv (.k (.int .i64 5)), none⟩])
 (.seq (.ops [⟨none, .frz (.ag 0 (.sl (.ag 6 (.sl (.ag 5 (.sl (.ag 5 (.sl (.ag 5 (.sl (.ag 5 (.sl (.ag 5 (.sl .no) .no)) .no)) .no)) .no)) .no)) .no)) (.ag 1 (.sl .no) (.ag 2 (.sl .no) (.ag 3 (.sl (.ag 1 (.sl .no) .no)) (.ag 4 (.sl .no) (.ag 5 (.sl .no) .no)))))) 2, none⟩]) .ret)) .skip))
 (.seq (.ops [⟨some 20, .mv (.t 0), none⟩,
  ⟨some 21, .call 63 [(.t 20), (.k (.str [10]))], none⟩,
  ⟨some 5, .mv (.t 21), none⟩])
 (.seq (.ops [⟨some 22, .bld (.agg (List.replicate 6 (.list true []) ++ [.int .i64 0, .list true [], .int .i64 0])) [((8, 1), (.k (.int .i64 0)))], none⟩,
  ⟨some 23, .bob 9 (.t 22), none⟩,
  ⟨some 6, .mv (.t 23), none⟩])
 (.seq (.seq (.ops [⟨some 24, .mv (.t 5), none⟩,
  ⟨some 25, .len (.t 24), none⟩,
  ⟨some 26, .mv (.k (.int .i64 0)), none⟩])
 (.block 0 (.loop [2, 5, 6, 24, 25, 26, 38, 39, 40, 41, 42, 43, 44, 78, 79, 87, 88, 89, 90] (.seq (.ops [⟨some 27, .bin .lss (.t 26) (.t 25), none⟩])
 (.seq (.cond (.t 27) .skip (.exit 0))
 (.seq (.block 1 (.seq (.ops [⟨some 28, .ix 1 (.t 24) (.t 26), none⟩,
  ⟨some 29, .ld 1 false (.t 28), none⟩,
  ⟨some 8, .mv (.t 29), none⟩])
 (.seq (.ops [⟨some 31, .mv (.t 8), none⟩,
  ⟨some 32, .call 63 [(.t 31), (.k (.str [32]))], none⟩,
  ⟨some 33, .call 17 [(.t 32)], none⟩,
  ⟨some 30, .mv (.t 33), none⟩,
  ⟨some 34, .ext 0 (.t 30), none⟩,
  ⟨some 35, .ext 1 (.t 30), none⟩,
  ⟨some 9, .mv (.t 34), none⟩,
  ⟨some 10, .mv (.t 35), none⟩])
 (.seq (.ops [⟨some 36, .mv (.t 10), none⟩,
  ⟨some 37, .mv (.t 36), none⟩,
  ⟨some 38, .mv (.t 6), some (37, true)⟩,
  ⟨some 39, .nilc (.t 38), some (37, true)⟩,
  ⟨some 40, .fa 7 1 false (.t 39), some (37, true)⟩,
  ⟨some 41, .ld 1 false (.t 40), some (37, true)⟩,
  ⟨some 42, .mv (.t 9), some (37, true)⟩,
  ⟨some 43, .call 64 [(.t 41), (.t 42)], some (37, true)⟩,
  ⟨some 44, .un .not (.t 43), some (37, true)⟩,
  ⟨some 45, .pick (.t 37) (.t 44) (.k (.bool false)), none⟩])
 (.cond (.t 45) (.ops [⟨some 46, .mv (.t 6), none⟩,
  ⟨some 47, .mv (.t 6), none⟩,
  ⟨some 48, .nilc (.t 47), none⟩,
  ⟨some 49, .fa 7 1 false (.t 48), none⟩,
  ⟨some 50, .ld 1 false (.t 49), none⟩,
  ⟨some 51, .mv (.t 9), none⟩,
  ⟨some 52, .mkl (.str []) 1 [(0, (.t 51))], none⟩,
  ⟨some 53, .app 1 (.t 50) (.t 52), none⟩,
  ⟨some 54, .nilc (.t 46), none⟩,
  ⟨some 55, .fa 7 1 false (.t 54), none⟩,
  ⟨none, .st 1 (.t 55) (.t 53), none⟩]) .skip)))))
 (.ops [⟨some 56, .bin .add (.t 26) (.k (.int .i64 1)), none⟩,
  ⟨some 26, .mv (.t 56), none⟩])))))))
 (.seq (.ops [⟨some 57, .mv (.t 6), none⟩,
  ⟨some 58, .mv (.t 6), none⟩,
  ⟨some 59, .nilc (.t 58), none⟩,
  ⟨some 60, .fa 7 1 false (.t 59), none⟩,
  ⟨some 61, .ld 1 false (.t 60), none⟩,
  ⟨some 62, .nilc (.t 57), none⟩,
  ⟨some 63, .fa 0 7 true (.t 62), none⟩,
  ⟨some 64, .fa 1 1 false (.t 63), none⟩,
  ⟨none, .st 1 (.t 64) (.t 61), none⟩])
 (.seq (.ops [⟨some 11, .mv (.k (.int .i64 0)), none⟩])
 (.seq (.seq (.ops [⟨some 65, .mv (.t 5), none⟩,
  ⟨some 66, .len (.t 65), none⟩,
  ⟨some 67, .mv (.k (.int .i64 0)), none⟩])
 (.block 2 (.loop [2, 5, 6, 11, 65, 66, 67, 78, 79, 87, 88, 89, 90] (.seq (.ops [⟨some 68, .bin .lss (.t 67) (.t 66), none⟩])
 (.seq (.cond (.t 68) .skip (.exit 2))
 (.seq (.block 3 (.seq (.ops [⟨some 69, .mv (.t 67), none⟩,
  ⟨some 70, .ix 1 (.t 65) (.t 67), none⟩,
  ⟨some 71, .ld 1 false (.t 70), none⟩,
  ⟨some 12, .mv (.t 69), none⟩,
  ⟨some 13, .mv (.t 71), none⟩])
 (.seq (.seq (.ops [⟨some 72, .mv (.t 12), none⟩,
  ⟨some 73, .mv (.t 5), none⟩,
  ⟨some 74, .len (.t 73), none⟩,
  ⟨some 75, .bin .sub (.t 74) (.k (.int .i64 1)), none⟩,
  ⟨some 76, .bin .eql (.t 72) (.t 75), none⟩,
  ⟨some 77, .mv (.t 76), none⟩,
  ⟨some 78, .mv (.t 13), some (77, true)⟩,
  ⟨some 79, .bin .eql (.t 78) (.k (.str [])), some (77, true)⟩,
  ⟨some 80, .pick (.t 77) (.t 79) (.k (.bool false)), none⟩])
 (.cond (.t 80) (.exit 2) .skip))
 (.seq (.seq (.ops [⟨some 81, .mv (.t 12), none⟩,
  ⟨some 82, .mv (.t 5), none⟩,
  ⟨some 83, .len (.t 82), none⟩,
  ⟨some 84, .bin .sub (.t 83) (.k (.int .i64 1)), none⟩,
  ⟨some 85, .bin .eql (.t 81) (.t 84), none⟩,
  ⟨some 86, .mv (.t 85), none⟩,
  ⟨some 87, .mv (.t 6), some (86, false)⟩,
  ⟨some 88, .mv (.t 13), some (86, false)⟩,
  ⟨some 89, .call 65 [(.t 87), (.t 88)], some (86, false)⟩,
  ⟨some 90, .un .not (.t 89), some (86, false)⟩,
  ⟨some 91, .pick (.t 86) (.k (.bool true)) (.t 90), none⟩])
 (.cond (.t 91) (.seq (.ops [⟨some 92, .bld (.agg (List.replicate 6 (.list true []) ++ [.int .i64 0])) [], none⟩,
  ⟨some 93, .mv (.t 12), none⟩,
  ⟨some 94, .bin .add (.t 93) (.k (.int .i64 1)), none⟩,
  ⟨none, .st 7 (.t 2) (.t 92), none⟩,
  ⟨some 3, .mv (.t 94), none⟩,
  ⟨some 4, .mv (.k (.int .i64 5)), none⟩])
 (.seq (.ops [⟨none, .frz (.ag 0 (.sl (.ag 6 (.sl (.ag 5 (.sl (.ag 5 (.sl (.ag 5 (.sl (.ag 5 (.sl (.ag 5 (.sl .no) .no)) .no)) .no)) .no)) .no)) .no)) (.ag 1 (.sl .no) (.ag 2 (.sl .no) (.ag 3 (.sl (.ag 1 (.sl .no) .no)) (.ag 4 (.sl .no) (.ag 5 (.sl .no) .no)))))) 2, none⟩]) .ret)) .skip))
 (.seq (.ops [⟨some 95, .mv (.t 13), none⟩,
  ⟨some 96, .call 63 [(.t 95), (.k (.str [32]))], none⟩,
  ⟨some 97, .ix 1 (.t 96) (.k (.int .i64 0)), none⟩,
  ⟨some 98, .ld 1 false (.t 97), none⟩,
  ⟨some 99, .call 66 [(.t 98)], none⟩,
  ⟨some 100, .bin .gtr (.t 99) (.k (.int .i64 2)), none⟩])
 (.cond (.t 100) (.ops [⟨some 101, .mv (.t 11), none⟩,
  ⟨some 102, .bin .add (.t 101) (.k (.int .i64 1)), none⟩,
  ⟨some 11, .mv (.t 102), none⟩]) .skip))))))
 (.ops [⟨some 103, .bin .add (.t 67) (.k (.int .i64 1)), none⟩,
  ⟨some 67, .mv (.t 103), none⟩])))))))
 (.seq (.seq (.ops [⟨some 104, .mv (.t 11), none⟩,
  ⟨some 105, .bin .lss (.t 104) (.k (.int .i64 2)), none⟩])
 (.cond (.t 105) (.seq (.ops [⟨some 106, .bld (.agg (List.replicate 6 (.list true []) ++ [.int .i64 0])) [], none⟩,
  ⟨none, .st 7 (.t 2) (.t 106), none⟩,
  ⟨some 3, .mv (.k (.int .i64 0)), none⟩,
  ⟨some 4, .mv (.k (.int .i64 5)), none⟩])
 (.seq (.ops [⟨none, .frz (.ag 0 (.sl (.ag 6 (.sl (.ag 5 (.sl (.ag 5 (.sl (.ag 5 (.sl (.ag 5 (.sl (.ag 5 (.sl .no) .no)) .no)) .no)) .no)) .no)) .no)) (.ag 1 (.sl .no) (.ag 2 (.sl .no) (.ag 3 (.sl (.ag 1 (.sl .no) .no)) (.ag 4 (.sl .no) (.ag 5 (.sl .no) .no)))))) 2, none⟩]) .ret)) .skip))
 (.seq (.seq (.ops [⟨some 108, .mv (.t 6), none⟩,
  ⟨some 109, .nilc (.t 108), none⟩,
  ⟨some 110, .fa 0 7 true (.t 109), none⟩,
  ⟨some 111, .ld 7 true (.t 110), none⟩,
  ⟨some 112, .call 45 [(.t 111)], none⟩,
  ⟨some 107, .mv (.t 112), none⟩,
  ⟨some 113, .ext 0 (.t 107), none⟩,
  ⟨some 114, .ext 1 (.t 107), none⟩,
  ⟨some 14, .mv (.t 113), none⟩,
  ⟨some 15, .mv (.t 114), none⟩])
 (.seq (.ops [⟨some 115, .mv (.t 15), none⟩,
  ⟨some 116, .bin .neq (.t 115) (.k (.int .i64 0)), none⟩])
 (.cond (.t 116) (.seq (.ops [⟨some 117, .bld (.agg (List.replicate 6 (.list true []) ++ [.int .i64 0])) [], none⟩,
  ⟨some 118, .mv (.t 15), none⟩,
  ⟨none, .st 7 (.t 2) (.t 117), none⟩,
  ⟨some 3, .mv (.k (.int .i64 0)), none⟩,
  ⟨some 4, .mv (.t 118), none⟩])
 (.seq (.ops [⟨none, .frz (.ag 0 (.sl (.ag 6 (.sl (.ag 5 (.sl (.ag 5 (.sl (.ag 5 (.sl (.ag 5 (.sl (.ag 5 (.sl .no) .no)) .no)) .no)) .no)) .no)) .no)) (.ag 1 (.sl .no) (.ag 2 (.sl .no) (.ag 3 (.sl (.ag 1 (.sl .no) .no)) (.ag 4 (.sl .no) (.ag 5 (.sl .no) .no)))))) 2, none⟩]) .ret)) .skip)))
 (.seq (.ops [⟨some 119, .mv (.t 6), none⟩,
  ⟨some 120, .nilc (.t 119), none⟩,
  ⟨some 121, .fa 0 7 true (.t 120), none⟩,
  ⟨some 122, .ld 7 true (.t 121), none⟩,
  ⟨none, .st 7 (.t 2) (.t 122), none⟩,
  ⟨some 3, .mv (.k (.int .i64 0)), none⟩,
  ⟨some 4, .mv (.k (.int .i64 0)), none⟩])
 (.seq (.ops [⟨none, .frz (.ag 0 (.sl (.ag 6 (.sl (.ag 5 (.sl (.ag 5 (.sl (.ag 5 (.sl (.ag 5 (.sl (.ag 5 (.sl .no) .no)) .no)) .no)) .no)) .no)) .no)) (.ag 1 (.sl .no) (.ag 2 (.sl .no) (.ag 3 (.sl (.ag 1 (.sl .no) .no)) (.ag 4 (.sl .no) (.ag 5 (.sl .no) .no)))))) 2, none⟩]) .ret)))))))))))), [.cell 2 7 true, .tmp 3, .tmp 4], true⟩
/-- eyot/weigh.digits -/
def a68 : AFn := ⟨1, (.seq (.ops [⟨some 2, .mv (.k (.int .u64 0)), none⟩,
  ⟨some 3, .mv (.k (.int .i64 0)), none⟩,
  ⟨some 4, .mv (.k (.str [])), none⟩])
 (.seq (.block 0 (.loop [0, 2, 3, 9, 10, 11, 14, 15, 16] (.seq (.seq (.ops [⟨some 5, .mv (.t 0), none⟩,
  ⟨some 6, .lns (.t 5), none⟩,
  ⟨some 7, .bin .gtr (.t 6) (.k (.int .i64 0)), none⟩,
  ⟨some 8, .mv (.t 7), none⟩,
  ⟨some 9, .mv (.t 0), some (8, true)⟩,
  ⟨some 10, .ixs (.t 9) (.k (.int .i64 0)), some (8, true)⟩,
  ⟨some 11, .bin .geq (.t 10) (.k (.int .u8 48)), some (8, true)⟩,
  ⟨some 12, .pick (.t 8) (.t 11) (.k (.bool false)), none⟩,
  ⟨some 13, .mv (.t 12), none⟩,
  ⟨some 14, .mv (.t 0), some (13, true)⟩,
  ⟨some 15, .ixs (.t 14) (.k (.int .i64 0)), some (13, true)⟩,
  ⟨some 16, .bin .leq (.t 15) (.k (.int .u8 57)), some (13, true)⟩,
  ⟨some 17, .pick (.t 13) (.t 16) (.k (.bool false)), none⟩])
 (.cond (.t 17) .skip (.exit 0)))
 (.block 1 (.seq (.seq (.ops [⟨some 18, .mv (.t 3), none⟩,
  ⟨some 19, .bin .add (.t 18) (.k (.int .i64 1)), none⟩,
  ⟨some 3, .mv (.t 19), none⟩])
 (.seq (.ops [⟨some 20, .mv (.t 3), none⟩,
  ⟨some 21, .bin .gtr (.t 20) (.k (.int .i64 15)), none⟩])
 (.cond (.t 21) (.ops [⟨some 22, .bld (.agg ([])) [], none⟩,
  ⟨some 23, .mkif 2 (.t 22), none⟩,
  ⟨none, .pan (.t 23), none⟩]) .skip)))
 (.dops [⟨some 24, .mv (.t 2), none⟩,
  ⟨some 25, .bin .mul (.t 24) (.k (.int .u64 10)), none⟩,
  ⟨some 26, .mv (.t 0), none⟩,
  ⟨some 27, .ixs (.t 26) (.k (.int .i64 0)), none⟩,
  ⟨some 28, .bin .sub (.t 27) (.k (.int .u8 48)), none⟩,
  ⟨some 29, .cvi .u64 (.t 28), none⟩,
  ⟨some 30, .bin .add (.t 25) (.t 29), none⟩,
  ⟨some 31, .mv (.t 0), none⟩,
  ⟨some 32, .ss (.t 31) (some (.k (.int .i64 1))) none, none⟩,
  ⟨some 2, .mv (.t 30), none⟩,
  ⟨some 0, .mv (.t 32), none⟩]))))))
 (.seq (.seq (.ops [⟨some 33, .mv (.t 3), none⟩,
  ⟨some 34, .bin .eql (.t 33) (.k (.int .i64 0)), none⟩])
 (.cond (.t 34) (.ops [⟨some 35, .bld (.agg ([])) [], none⟩,
  ⟨some 36, .mkif 2 (.t 35), none⟩,
  ⟨none, .pan (.t 36), none⟩]) .skip))
 (.seq (.ops [⟨some 37, .mv (.t 2), none⟩,
  ⟨some 38, .mv (.t 3), none⟩,
  ⟨some 39, .mv (.t 0), none⟩,
  ⟨some 2, .mv (.t 37), none⟩,
  ⟨some 3, .mv (.t 38), none⟩,
  ⟨some 4, .mv (.t 39), none⟩])
 .ret)))), [.tmp 2, .tmp 3, .tmp 4], true⟩
/-- eyot/weigh.plain -/
def a69 : AFn := ⟨1, (.seq (.ops [⟨some 2, .mv (.k (.flt .f64 0)), none⟩])
 (.seq (.ops [⟨some 10, .mv (.t 0), none⟩,
  ⟨some 11, .call 68 [(.t 10)], none⟩,
  ⟨some 9, .mv (.t 11), none⟩,
  ⟨some 12, .ext 0 (.t 9), none⟩,
  ⟨some 13, .ext 1 (.t 9), none⟩,
  ⟨some 14, .ext 2 (.t 9), none⟩,
  ⟨some 3, .mv (.t 12), none⟩,
  ⟨some 4, .mv (.t 13), none⟩,
  ⟨some 5, .mv (.t 14), none⟩])
 (.seq (.seq (.ops [⟨some 15, .mv (.t 5), none⟩,
  ⟨some 16, .bin .eql (.t 15) (.k (.str [])), none⟩])
 (.cond (.t 16) (.seq (.ops [⟨some 17, .mv (.t 3), none⟩,
  ⟨some 18, .nat 4 [(.t 17)], none⟩,
  ⟨some 2, .mv (.t 18), none⟩])
 .ret) .skip))
 (.seq (.seq (.ops [⟨some 19, .mv (.t 5), none⟩,
  ⟨some 20, .ixs (.t 19) (.k (.int .i64 0)), none⟩,
  ⟨some 21, .bin .neq (.t 20) (.k (.int .u8 46)), none⟩])
 (.cond (.t 21) (.ops [⟨some 22, .bld (.agg ([])) [], none⟩,
  ⟨some 23, .mkif 2 (.t 22), none⟩,
  ⟨none, .pan (.t 23), none⟩]) .skip))
 (.seq (.ops [⟨some 25, .mv (.t 5), none⟩,
  ⟨some 26, .ss (.t 25) (some (.k (.int .i64 1))) none, none⟩,
  ⟨some 27, .call 68 [(.t 26)], none⟩,
  ⟨some 24, .mv (.t 27), none⟩,
  ⟨some 28, .ext 0 (.t 24), none⟩,
  ⟨some 29, .ext 1 (.t 24), none⟩,
  ⟨some 30, .ext 2 (.t 24), none⟩,
  ⟨some 6, .mv (.t 28), none⟩,
  ⟨some 7, .mv (.t 29), none⟩,
  ⟨some 5, .mv (.t 30), none⟩])
 (.seq (.seq (.ops [⟨some 31, .mv (.t 5), none⟩,
  ⟨some 32, .bin .neq (.t 31) (.k (.str [])), none⟩,
  ⟨some 33, .mv (.t 32), none⟩,
  ⟨some 34, .mv (.t 4), some (33, false)⟩,
  ⟨some 35, .mv (.t 7), some (33, false)⟩,
  ⟨some 36, .bin .add (.t 34) (.t 35), some (33, false)⟩,
  ⟨some 37, .bin .gtr (.t 36) (.k (.int .i64 15)), some (33, false)⟩,
  ⟨some 38, .pick (.t 33) (.k (.bool true)) (.t 37), none⟩])
 (.cond (.t 38) (.ops [⟨some 39, .bld (.agg ([])) [], none⟩,
  ⟨some 40, .mkif 2 (.t 39), none⟩,
  ⟨none, .pan (.t 40), none⟩]) .skip))
 (.seq (.ops [⟨some 8, .mv (.k (.int .u64 1)), none⟩])
 (.seq (.seq (.ops [⟨some 41, .mv (.t 7), none⟩,
  ⟨some 42, .mv (.k (.int .i64 0)), none⟩])
 (.block 0 (.loop [3, 6, 8, 41, 42] (.seq (.ops [⟨some 43, .bin .lss (.t 42) (.t 41), none⟩])
 (.seq (.cond (.t 43) .skip (.exit 0))
 (.seq (.block 1 (.ops [⟨some 44, .mv (.t 8), none⟩,
  ⟨some 45, .bin .mul (.t 44) (.k (.int .u64 10)), none⟩,
  ⟨some 8, .mv (.t 45), none⟩]))
 (.ops [⟨some 46, .bin .add (.t 42) (.k (.int .i64 1)), none⟩,
  ⟨some 42, .mv (.t 46), none⟩])))))))
 (.seq (.ops [⟨some 47, .mv (.t 3), none⟩,
  ⟨some 48, .mv (.t 8), none⟩,
  ⟨some 49, .bin .mul (.t 47) (.t 48), none⟩,
  ⟨some 50, .mv (.t 6), none⟩,
  ⟨some 51, .bin .add (.t 49) (.t 50), none⟩,
  ⟨some 52, .nat 4 [(.t 51)], none⟩,
  ⟨some 53, .mv (.t 8), none⟩,
  ⟨some 54, .nat 4 [(.t 53)], none⟩,
  ⟨some 55, .bin .quo (.t 52) (.t 54), none⟩,
  ⟨some 2, .mv (.t 55), none⟩])
 .ret))))))))), [.tmp 2], true⟩
/-- eyot/weigh.number -/
def a70 : AFn := ⟨1, (.seq (.ops [⟨some 2, .mv (.k (.flt .f64 0)), none⟩])
 (.seq (.block 0 (.seq (.ops [⟨some 4, .mv (.t 0), none⟩,
  ⟨some 5, .bin .eql (.t 4) (.k (.str [110, 97, 110])), none⟩,
  ⟨some 3, .mv (.t 5), none⟩])
 (.cond (.t 3) (.seq (.ops [⟨some 6, .call 44 [], none⟩,
  ⟨some 2, .mv (.t 6), none⟩])
 .ret) (.seq (.ops [⟨some 8, .mv (.t 0), none⟩,
  ⟨some 9, .bin .eql (.t 8) (.k (.str [105, 110, 102])), none⟩,
  ⟨some 7, .mv (.t 9), none⟩])
 (.cond (.t 7) (.seq (.ops [⟨some 10, .call 102 [(.k (.int .i64 1))], none⟩,
  ⟨some 2, .mv (.t 10), none⟩])
 .ret) (.seq (.ops [⟨some 12, .mv (.t 0), none⟩,
  ⟨some 13, .bin .eql (.t 12) (.k (.str [45, 105, 110, 102])), none⟩,
  ⟨some 11, .mv (.t 13), none⟩])
 (.cond (.t 11) (.seq (.ops [⟨some 14, .call 102 [(.k (.int .i64 (-1)))], none⟩,
  ⟨some 2, .mv (.t 14), none⟩])
 .ret) (.seq (.ops [⟨some 16, .mv (.t 0), none⟩,
  ⟨some 17, .lns (.t 16), none⟩,
  ⟨some 18, .bin .gtr (.t 17) (.k (.int .i64 0)), none⟩,
  ⟨some 19, .mv (.t 18), none⟩,
  ⟨some 20, .mv (.t 0), some (19, true)⟩,
  ⟨some 21, .ixs (.t 20) (.k (.int .i64 0)), some (19, true)⟩,
  ⟨some 22, .bin .eql (.t 21) (.k (.int .u8 45)), some (19, true)⟩,
  ⟨some 23, .pick (.t 19) (.t 22) (.k (.bool false)), none⟩,
  ⟨some 15, .mv (.t 23), none⟩])
 (.cond (.t 15) (.seq (.ops [⟨some 24, .mv (.t 0), none⟩,
  ⟨some 25, .ss (.t 24) (some (.k (.int .i64 1))) none, none⟩,
  ⟨some 26, .call 69 [(.t 25)], none⟩,
  ⟨some 27, .call 106 [(.t 26), (.k (.flt .f64 13830554455654793216))], none⟩,
  ⟨some 2, .mv (.t 27), none⟩])
 .ret) .skip)))))))))
 (.seq (.ops [⟨some 28, .mv (.t 0), none⟩,
  ⟨some 29, .call 69 [(.t 28)], none⟩,
  ⟨some 2, .mv (.t 29), none⟩])
 .ret))), [.tmp 2], true⟩
/-- internal/strconv.Atoi -/
def a71 : AFn := ⟨1, (.seq (.ops [⟨some 2, .mv (.k (.int .i64 0)), none⟩,
  ⟨some 3, .mv (.k (.niliface)), none⟩])
 (.seq (.ops [⟨some 11, .mv (.t 0), none⟩,
  ⟨some 12, .lns (.t 11), none⟩,
  ⟨some 4, .mv (.t 12), none⟩])
 (.seq (.seq (.ops [⟨some 13, .mv (.k (.bool false)), none⟩,
  ⟨some 14, .mv (.t 4), some (13, true)⟩,
  ⟨some 15, .bin .lss (.k (.int .i64 0)) (.t 14), some (13, true)⟩,
  ⟨some 16, .mv (.t 15), some (13, true)⟩,
  ⟨some 17, .mv (.t 4), some (16, true)⟩,
  ⟨some 18, .bin .lss (.t 17) (.k (.int .i64 10)), some (16, true)⟩,
  ⟨some 19, .pick (.t 16) (.t 18) (.k (.bool false)), some (13, true)⟩,
  ⟨some 20, .pick (.t 13) (.t 19) (.k (.bool false)), none⟩,
  ⟨some 21, .mv (.t 20), none⟩,
  ⟨some 22, .mv (.k (.bool true)), some (21, false)⟩,
  ⟨some 23, .mv (.t 4), some (22, true)⟩,
  ⟨some 24, .bin .lss (.k (.int .i64 0)) (.t 23), some (22, true)⟩,
  ⟨some 25, .mv (.t 24), some (22, true)⟩,
  ⟨some 26, .mv (.t 4), some (25, true)⟩,
  ⟨some 27, .bin .lss (.t 26) (.k (.int .i64 19)), some (25, true)⟩,
  ⟨some 28, .pick (.t 25) (.t 27) (.k (.bool false)), some (22, true)⟩,
  ⟨some 29, .pick (.t 22) (.t 28) (.k (.bool false)), some (21, false)⟩,
  ⟨some 30, .pick (.t 21) (.k (.bool true)) (.t 29), none⟩])
 (.cond (.t 30) (.seq (.ops [⟨some 31, .mv (.t 0), none⟩,
  ⟨some 5, .mv (.t 31), none⟩])
 (.seq (.seq (.ops [⟨some 32, .mv (.t 0), none⟩,
  ⟨some 33, .ixs (.t 32) (.k (.int .i64 0)), none⟩,
  ⟨some 34, .bin .eql (.t 33) (.k (.int .u8 45)), none⟩,
  ⟨some 35, .mv (.t 34), none⟩,
  ⟨some 36, .mv (.t 0), some (35, false)⟩,
  ⟨some 37, .ixs (.t 36) (.k (.int .i64 0)), some (35, false)⟩,
  ⟨some 38, .bin .eql (.t 37) (.k (.int .u8 43)), some (35, false)⟩,
  ⟨some 39, .pick (.t 35) (.k (.bool true)) (.t 38), none⟩])
 (.cond (.t 39) (.seq (.ops [⟨some 40, .mv (.t 0), none⟩,
  ⟨some 41, .ss (.t 40) (some (.k (.int .i64 1))) none, none⟩,
  ⟨some 0, .mv (.t 41), none⟩])
 (.seq (.ops [⟨some 42, .mv (.t 0), none⟩,
  ⟨some 43, .lns (.t 42), none⟩,
  ⟨some 44, .bin .lss (.t 43) (.k (.int .i64 1)), none⟩])
 (.cond (.t 44) (.seq (.ops [⟨some 45, .mkif 6 (.k (.int .i64 2)), none⟩,
  ⟨some 2, .mv (.k (.int .i64 0)), none⟩,
  ⟨some 3, .mv (.t 45), none⟩])
 .ret) .skip))) .skip))
 (.seq (.ops [⟨some 6, .mv (.k (.int .i64 0)), none⟩])
 (.seq (.seq (.ops [⟨some 46, .mv (.t 0), none⟩,
  ⟨some 47, .cvs (.t 46), none⟩,
  ⟨some 48, .len (.t 47), none⟩,
  ⟨some 49, .mv (.k (.int .i64 0)), none⟩])
 (.block 0 (.loop [5, 6, 47, 48, 49] (.seq (.ops [⟨some 50, .bin .lss (.t 49) (.t 48), none⟩])
 (.seq (.cond (.t 50) .skip (.exit 0))
 (.seq (.block 1 (.seq (.ops [⟨some 51, .ix 1 (.t 47) (.t 49), none⟩,
  ⟨some 52, .ld 1 false (.t 51), none⟩,
  ⟨some 8, .mv (.t 52), none⟩])
 (.seq (.ops [⟨some 53, .mv (.t 8), none⟩,
  ⟨some 54, .bin .sub (.t 53) (.k (.int .u8 48)), none⟩,
  ⟨some 8, .mv (.t 54), none⟩])
 (.seq (.seq (.ops [⟨some 55, .mv (.t 8), none⟩,
  ⟨some 56, .bin .gtr (.t 55) (.k (.int .u8 9)), none⟩])
 (.cond (.t 56) (.seq (.ops [⟨some 57, .mkif 6 (.k (.int .i64 2)), none⟩,
  ⟨some 2, .mv (.k (.int .i64 0)), none⟩,
  ⟨some 3, .mv (.t 57), none⟩])
 .ret) .skip))
 (.ops [⟨some 58, .mv (.t 6), none⟩,
  ⟨some 59, .bin .mul (.t 58) (.k (.int .i64 10)), none⟩,
  ⟨some 60, .mv (.t 8), none⟩,
  ⟨some 61, .cvi .i64 (.t 60), none⟩,
  ⟨some 62, .bin .add (.t 59) (.t 61), none⟩,
  ⟨some 6, .mv (.t 62), none⟩])))))
 (.ops [⟨some 63, .bin .add (.t 49) (.k (.int .i64 1)), none⟩,
  ⟨some 49, .mv (.t 63), none⟩])))))))
 (.seq (.seq (.ops [⟨some 64, .mv (.t 5), none⟩,
  ⟨some 65, .ixs (.t 64) (.k (.int .i64 0)), none⟩,
  ⟨some 66, .bin .eql (.t 65) (.k (.int .u8 45)), none⟩])
 (.cond (.t 66) (.ops [⟨some 67, .mv (.t 6), none⟩,
  ⟨some 68, .un .neg (.t 67), none⟩,
  ⟨some 6, .mv (.t 68), none⟩]) .skip))
 (.seq (.ops [⟨some 69, .mv (.t 6), none⟩,
  ⟨some 2, .mv (.t 69), none⟩,
  ⟨some 3, .mv (.k (.niliface)), none⟩])
 .ret)))))) .skip))
 (.seq (.ops [⟨some 71, .mv (.t 0), none⟩,
  ⟨some 72, .call 109 [(.t 71), (.k (.int .i64 10)), (.k (.int .i64 0))], none⟩,
  ⟨some 70, .mv (.t 72), none⟩,
  ⟨some 73, .ext 0 (.t 70), none⟩,
  ⟨some 74, .ext 1 (.t 70), none⟩,
  ⟨some 9, .mv (.t 73), none⟩,
  ⟨some 10, .mv (.t 74), none⟩])
 (.seq (.ops [⟨some 75, .mv (.t 9), none⟩,
  ⟨some 76, .mv (.t 10), none⟩,
  ⟨some 2, .mv (.t 75), none⟩,
  ⟨some 3, .mv (.t 76), none⟩])
 .ret))))), [.tmp 2, .tmp 3], false⟩
/-- internal/strconv.small -/
def a72 : AFn := ⟨1, (.seq (.ops [⟨some 2, .mv (.k (.str [])), none⟩])
 (.seq (.seq (.ops [⟨some 3, .mv (.t 0), none⟩,
  ⟨some 4, .bin .lss (.t 3) (.k (.int .i64 10)), none⟩])
 (.cond (.t 4) (.seq (.ops [⟨some 5, .mv (.t 0), none⟩,
  ⟨some 6, .mv (.t 0), none⟩,
  ⟨some 7, .bin .add (.t 6) (.k (.int .i64 1)), none⟩,
  ⟨some 8, .ss (.k (.str [48, 49, 50, 51, 52, 53, 54, 55, 56, 57, 97, 98, 99, 100, 101, 102, 103, 104, 105, 106, 107, 108, 109, 110, 111, 112, 113, 114, 115, 116, 117, 118, 119, 120, 121, 122])) (some (.t 5)) (some (.t 7)), none⟩,
  ⟨some 2, .mv (.t 8), none⟩])
 .ret) .skip))
 (.seq (.ops [⟨some 9, .mv (.t 0), none⟩,
  ⟨some 10, .bin .mul (.t 9) (.k (.int .i64 2)), none⟩,
  ⟨some 11, .mv (.t 0), none⟩,
  ⟨some 12, .bin .mul (.t 11) (.k (.int .i64 2)), none⟩,
  ⟨some 13, .bin .add (.t 12) (.k (.int .i64 2)), none⟩,
  ⟨some 14, .ss (.k (.str [48, 48, 48, 49, 48, 50, 48, 51, 48, 52, 48, 53, 48, 54, 48, 55, 48, 56, 48, 57, 49, 48, 49, 49, 49, 50, 49, 51, 49, 52, 49, 53, 49, 54, 49, 55, 49, 56, 49, 57, 50, 48, 50, 49, 50, 50, 50, 51, 50, 52, 50, 53, 50, 54, 50, 55, 50, 56, 50, 57, 51, 48, 51, 49, 51, 50, 51, 51, 51, 52, 51, 53, 51, 54, 51, 55, 51, 56, 51, 57, 52, 48, 52, 49, 52, 50, 52, 51, 52, 52, 52, 53, 52, 54, 52, 55, 52, 56, 52, 57, 53, 48, 53, 49, 53, 50, 53, 51, 53, 52, 53, 53, 53, 54, 53, 55, 53, 56, 53, 57, 54, 48, 54, 49, 54, 50, 54, 51, 54, 52, 54, 53, 54, 54, 54, 55, 54, 56, 54, 57, 55, 48, 55, 49, 55, 50, 55, 51, 55, 52, 55, 53, 55, 54, 55, 55, 55, 56, 55, 57, 56, 48, 56, 49, 56, 50, 56, 51, 56, 52, 56, 53, 56, 54, 56, 55, 56, 56, 56, 57, 57, 48, 57, 49, 57, 50, 57, 51, 57, 52, 57, 53, 57, 54, 57, 55, 57, 56, 57, 57])) (some (.t 10)) (some (.t 13)), none⟩,
  ⟨some 2, .mv (.t 14), none⟩])
 .ret))), [.tmp 2], true⟩
/-- internal/strconv.FormatInt -/
def a73 : AFn := ⟨2, (.seq (.ops [⟨some 4, .mv (.k (.str [])), none⟩])
 (.seq (.seq (.ops [⟨some 10, .mv (.t 1), none⟩,
  ⟨some 11, .bin .eql (.t 10) (.k (.int .i64 10)), none⟩])
 (.cond (.t 11) (.seq (.seq (.ops [⟨some 12, .mv (.t 0), none⟩,
  ⟨some 13, .bin .leq (.k (.int .i64 0)) (.t 12), none⟩,
  ⟨some 14, .mv (.t 13), none⟩,
  ⟨some 15, .mv (.t 0), some (14, true)⟩,
  ⟨some 16, .bin .lss (.t 15) (.k (.int .i64 100)), some (14, true)⟩,
  ⟨some 17, .pick (.t 14) (.t 16) (.k (.bool false)), none⟩])
 (.cond (.t 17) (.seq (.ops [⟨some 18, .mv (.t 0), none⟩,
  ⟨some 19, .call 72 [(.t 18)], none⟩,
  ⟨some 4, .mv (.t 19), none⟩])
 .ret) .skip))
 (.seq (.ops [⟨some 5, .aob (List.replicate 24 (.int .u8 0)), none⟩])
 (.seq (.ops [⟨some 20, .mv (.t 0), none⟩,
  ⟨some 21, .cvi .u64 (.t 20), none⟩,
  ⟨some 6, .mv (.t 21), none⟩])
 (.seq (.seq (.ops [⟨some 22, .mv (.t 0), none⟩,
  ⟨some 23, .bin .lss (.t 22) (.k (.int .i64 0)), none⟩])
 (.cond (.t 23) (.ops [⟨some 24, .mv (.t 6), none⟩,
  ⟨some 25, .un .neg (.t 24), none⟩,
  ⟨some 6, .mv (.t 25), none⟩]) .skip))
 (.seq (.ops [⟨some 26, .mv (.t 6), none⟩,
  ⟨some 27, .call 110 [(.t 26)], none⟩,
  ⟨some 7, .mv (.t 27), none⟩])
 (.seq (.ops [⟨some 28, .mv (.t 7), none⟩,
  ⟨some 29, .bin .add (.k (.int .i64 1)) (.t 28), none⟩,
  ⟨some 30, .sla 24 (.t 5) (some (.k (.int .i64 1))) (some (.t 29)), none⟩,
  ⟨some 31, .mv (.t 6), none⟩,
  ⟨some 32, .call 111 [(.t 30), (.t 31)], none⟩])
 (.seq (.seq (.ops [⟨some 33, .mv (.t 0), none⟩,
  ⟨some 34, .bin .lss (.t 33) (.k (.int .i64 0)), none⟩])
 (.cond (.t 34) (.seq (.ops [⟨some 35, .ia 24 1 false (.t 5) (.k (.int .i64 0)), none⟩,
  ⟨none, .st 1 (.t 35) (.k (.int .u8 45)), none⟩])
 (.seq (.ops [⟨some 36, .mv (.t 7), none⟩,
  ⟨some 37, .bin .add (.k (.int .i64 1)) (.t 36), none⟩,
  ⟨some 38, .sla 24 (.t 5) none (some (.t 37)), none⟩,
  ⟨some 39, .cvb (.t 38), none⟩,
  ⟨some 4, .mv (.t 39), none⟩])
 .ret)) .skip))
 (.seq (.ops [⟨some 40, .mv (.t 7), none⟩,
  ⟨some 41, .bin .add (.k (.int .i64 1)) (.t 40), none⟩,
  ⟨some 42, .sla 24 (.t 5) (some (.k (.int .i64 1))) (some (.t 41)), none⟩,
  ⟨some 43, .cvb (.t 42), none⟩,
  ⟨some 4, .mv (.t 43), none⟩])
 .ret)))))))) .skip))
 (.seq (.ops [⟨some 45, .mv (.t 0), none⟩,
  ⟨some 46, .cvi .u64 (.t 45), none⟩,
  ⟨some 47, .mv (.t 1), none⟩,
  ⟨some 48, .mv (.t 0), none⟩,
  ⟨some 49, .bin .lss (.t 48) (.k (.int .i64 0)), none⟩,
  ⟨some 50, .call 112 [(.k (.list true [])), (.t 46), (.t 47), (.t 49), (.k (.bool false))], none⟩,
  ⟨some 44, .mv (.t 50), none⟩,
  ⟨some 51, .ext 0 (.t 44), none⟩,
  ⟨some 52, .ext 1 (.t 44), none⟩,
  ⟨some 8, .mv (.t 51), none⟩,
  ⟨some 9, .mv (.t 52), none⟩])
 (.seq (.ops [⟨some 53, .mv (.t 9), none⟩,
  ⟨some 4, .mv (.t 53), none⟩])
 .ret)))), [.tmp 4], true⟩
/-- internal/strconv.Itoa -/
def a74 : AFn := ⟨1, (.seq (.ops [⟨some 2, .mv (.k (.str [])), none⟩])
 (.seq (.ops [⟨some 3, .mv (.t 0), none⟩,
  ⟨some 4, .call 73 [(.t 3), (.k (.int .i64 10))], none⟩,
  ⟨some 2, .mv (.t 4), none⟩])
 .ret)), [.tmp 2], true⟩
/-- internal/stringslite.IndexByte -/
def a75 : AFn := ⟨2, (.seq (.ops [⟨some 4, .mv (.k (.int .i64 0)), none⟩])
 (.seq (.ops [⟨some 5, .mv (.t 0), none⟩,
  ⟨some 6, .mv (.t 1), none⟩,
  ⟨some 7, .nat 1 [(.t 5), (.t 6)], none⟩,
  ⟨some 4, .mv (.t 7), none⟩])
 .ret)), [.tmp 4], true⟩
/-- slices.Grow[[]eyot/api.Set,eyot/api.Set] -/
def a76 : AFn := ⟨2, (.seq (.ops [⟨some 4, .mv (.k (.list true [])), none⟩])
 (.seq (.seq (.ops [⟨some 5, .mv (.t 1), none⟩,
  ⟨some 6, .bin .lss (.t 5) (.k (.int .i64 0)), none⟩])
 (.cond (.t 6) (.ops [⟨some 7, .mkif 5 (.k (.str [99, 97, 110, 110, 111, 116, 32, 98, 101, 32, 110, 101, 103, 97, 116, 105, 118, 101])), none⟩,
  ⟨none, .pan (.t 7), none⟩]) .skip))
 (.seq (.seq (.ops [⟨some 8, .mv (.t 1), none⟩,
  ⟨some 9, .mv (.t 0), none⟩,
  ⟨some 10, .cap (.t 9), none⟩,
  ⟨some 11, .mv (.t 0), none⟩,
  ⟨some 12, .len (.t 11), none⟩,
  ⟨some 13, .bin .sub (.t 10) (.t 12), none⟩,
  ⟨some 14, .bin .sub (.t 8) (.t 13), none⟩,
  ⟨some 1, .mv (.t 14), none⟩])
 (.seq (.ops [⟨some 15, .mv (.t 1), none⟩,
  ⟨some 16, .bin .gtr (.t 15) (.k (.int .i64 0)), none⟩])
 (.cond (.t 16) (.ops [⟨some 17, .mv (.t 0), none⟩,
  ⟨some 18, .mv (.t 0), none⟩,
  ⟨some 19, .cap (.t 18), none⟩,
  ⟨some 20, .sl 4 (.t 17) none (some (.t 19)) none, none⟩,
  ⟨some 21, .mv (.t 1), none⟩,
  ⟨some 22, .apz 4 (.agg ([.int .u64 0, .int .u64 0, .int .u64 0, .int .u64 0])) (.t 20) (.t 21), none⟩,
  ⟨some 23, .mv (.t 0), none⟩,
  ⟨some 24, .len (.t 23), none⟩,
  ⟨some 25, .sl 4 (.t 22) none (some (.t 24)) none, none⟩,
  ⟨some 0, .mv (.t 25), none⟩]) .skip)))
 (.seq (.ops [⟨some 26, .mv (.t 0), none⟩,
  ⟨some 4, .mv (.t 26), none⟩])
 .ret)))), [.tmp 4], false⟩
/-- slices.IndexFunc[[]eyot/api.Rule,eyot/api.Rule] -/
def a77 : AFn := ⟨2, (.seq (.ops [⟨some 4, .mv (.k (.int .i64 0)), none⟩])
 (.seq (.seq (.ops [⟨some 6, .mv (.t 0), none⟩,
  ⟨some 7, .len (.t 6), none⟩,
  ⟨some 8, .mv (.k (.int .i64 0)), none⟩])
 (.block 0 (.loop [0, 1, 7, 8] (.seq (.ops [⟨some 9, .bin .lss (.t 8) (.t 7), none⟩])
 (.seq (.cond (.t 9) .skip (.exit 0))
 (.seq (.block 1 (.seq (.ops [⟨some 10, .mv (.t 8), none⟩,
  ⟨some 5, .mv (.t 10), none⟩])
 (.seq (.ops [⟨some 11, .mv (.t 1), none⟩,
  ⟨some 12, .mv (.t 0), none⟩,
  ⟨some 13, .mv (.t 5), none⟩,
  ⟨some 14, .ix 3 (.t 12) (.t 13), none⟩,
  ⟨some 15, .ld 3 true (.t 14), none⟩,
  ⟨some 16, .callv (.t 11) [(.t 15)], none⟩])
 (.cond (.t 16) (.seq (.ops [⟨some 17, .mv (.t 5), none⟩,
  ⟨some 4, .mv (.t 17), none⟩])
 .ret) .skip))))
 (.ops [⟨some 18, .bin .add (.t 8) (.k (.int .i64 1)), none⟩,
  ⟨some 8, .mv (.t 18), none⟩])))))))
 (.seq (.ops [⟨some 4, .mv (.k (.int .i64 (-1))), none⟩])
 .ret))), [.tmp 4], true⟩
/-- slices.ContainsFunc[[]eyot/api.Token,eyot/api.Token] -/
def a78 : AFn := ⟨2, (.seq (.ops [⟨some 4, .mv (.k (.bool false)), none⟩])
 (.seq (.ops [⟨some 5, .mv (.t 0), none⟩,
  ⟨some 6, .mv (.t 1), none⟩,
  ⟨some 7, .call 52 [(.t 5), (.t 6)], none⟩,
  ⟨some 8, .bin .geq (.t 7) (.k (.int .i64 0)), none⟩,
  ⟨some 4, .mv (.t 8), none⟩])
 .ret)), [.tmp 4], true⟩
/-- strconv.Itoa -/
def a79 : AFn := ⟨1, (.seq (.ops [⟨some 2, .mv (.k (.str [])), none⟩])
 (.seq (.ops [⟨some 3, .mv (.t 0), none⟩,
  ⟨some 4, .call 74 [(.t 3)], none⟩,
  ⟨some 2, .mv (.t 4), none⟩])
 .ret)), [.tmp 2], true⟩
/-- strings.Index -/
def a80 : AFn := ⟨2, (.seq (.ops [⟨some 4, .mv (.k (.int .i64 0)), none⟩])
 (.seq (.ops [⟨some 5, .mv (.t 0), none⟩,
  ⟨some 6, .mv (.t 1), none⟩,
  ⟨some 7, .call 82 [(.t 5), (.t 6)], none⟩,
  ⟨some 4, .mv (.t 7), none⟩])
 .ret)), [.tmp 4], true⟩
/-- strings.Count -/
def a81 : AFn := ⟨2, (.seq (.ops [⟨some 4, .mv (.k (.int .i64 0)), none⟩])
 (.seq (.seq (.ops [⟨some 7, .mv (.t 1), none⟩,
  ⟨some 8, .lns (.t 7), none⟩,
  ⟨some 9, .bin .eql (.t 8) (.k (.int .i64 0)), none⟩])
 (.cond (.t 9) (.seq (.ops [⟨some 10, .mv (.t 0), none⟩,
  ⟨some 11, .call 114 [(.t 10)], none⟩,
  ⟨some 12, .bin .add (.t 11) (.k (.int .i64 1)), none⟩,
  ⟨some 4, .mv (.t 12), none⟩])
 .ret) .skip))
 (.seq (.seq (.ops [⟨some 13, .mv (.t 1), none⟩,
  ⟨some 14, .lns (.t 13), none⟩,
  ⟨some 15, .bin .eql (.t 14) (.k (.int .i64 1)), none⟩])
 (.cond (.t 15) (.seq (.ops [⟨some 16, .mv (.t 0), none⟩,
  ⟨some 17, .mv (.t 1), none⟩,
  ⟨some 18, .ixs (.t 17) (.k (.int .i64 0)), none⟩,
  ⟨some 19, .nat 0 [(.t 16), (.t 18)], none⟩,
  ⟨some 4, .mv (.t 19), none⟩])
 .ret) .skip))
 (.seq (.ops [⟨some 5, .mv (.k (.int .i64 0)), none⟩])
 (.block 0 (.loop [0, 1, 5] (.block 1 (.seq (.ops [⟨some 20, .mv (.t 0), none⟩,
  ⟨some 21, .mv (.t 1), none⟩,
  ⟨some 22, .call 80 [(.t 20), (.t 21)], none⟩,
  ⟨some 6, .mv (.t 22), none⟩])
 (.seq (.seq (.ops [⟨some 23, .mv (.t 6), none⟩,
  ⟨some 24, .bin .eql (.t 23) (.k (.int .i64 (-1))), none⟩])
 (.cond (.t 24) (.seq (.ops [⟨some 25, .mv (.t 5), none⟩,
  ⟨some 4, .mv (.t 25), none⟩])
 .ret) .skip))
 (.seq (.ops [⟨some 26, .mv (.t 5), none⟩,
  ⟨some 27, .bin .add (.t 26) (.k (.int .i64 1)), none⟩,
  ⟨some 5, .mv (.t 27), none⟩])
 (.ops [⟨some 28, .mv (.t 0), none⟩,
  ⟨some 29, .mv (.t 6), none⟩,
  ⟨some 30, .mv (.t 1), none⟩,
  ⟨some 31, .lns (.t 30), none⟩,
  ⟨some 32, .bin .add (.t 29) (.t 31), none⟩,
  ⟨some 33, .ss (.t 28) (some (.t 32)) none, none⟩,
  ⟨some 0, .mv (.t 33), none⟩]))))))))))), [.tmp 4], true⟩
/-- internal/stringslite.Index -/
def a82 : AFn := ⟨2, (.seq (.ops [⟨some 4, .mv (.k (.int .i64 0)), none⟩])
 (.seq (.ops [⟨some 14, .mv (.t 1), none⟩,
  ⟨some 15, .lns (.t 14), none⟩,
  ⟨some 5, .mv (.t 15), none⟩])
 (.seq (.block 0 (.seq (.ops [⟨some 17, .mv (.t 5), none⟩,
  ⟨some 18, .bin .eql (.t 17) (.k (.int .i64 0)), none⟩,
  ⟨some 19, .mv (.t 18), none⟩,
  ⟨some 20, .mv (.t 1), some (19, false)⟩,
  ⟨some 21, .mv (.t 0), some (19, false)⟩,
  ⟨some 22, .bin .eql (.t 20) (.t 21), some (19, false)⟩,
  ⟨some 23, .pick (.t 19) (.k (.bool true)) (.t 22), none⟩,
  ⟨some 16, .mv (.t 23), none⟩])
 (.cond (.t 16) (.seq (.ops [⟨some 4, .mv (.k (.int .i64 0)), none⟩])
 .ret) (.seq (.ops [⟨some 25, .mv (.t 5), none⟩,
  ⟨some 26, .bin .eql (.t 25) (.k (.int .i64 1)), none⟩,
  ⟨some 24, .mv (.t 26), none⟩])
 (.cond (.t 24) (.seq (.ops [⟨some 27, .mv (.t 0), none⟩,
  ⟨some 28, .mv (.t 1), none⟩,
  ⟨some 29, .ixs (.t 28) (.k (.int .i64 0)), none⟩,
  ⟨some 30, .call 75 [(.t 27), (.t 29)], none⟩,
  ⟨some 4, .mv (.t 30), none⟩])
 .ret) (.seq (.ops [⟨some 32, .mv (.t 5), none⟩,
  ⟨some 33, .mv (.t 0), none⟩,
  ⟨some 34, .lns (.t 33), none⟩,
  ⟨some 35, .bin .geq (.t 32) (.t 34), none⟩,
  ⟨some 31, .mv (.t 35), none⟩])
 (.cond (.t 31) (.seq (.ops [⟨some 4, .mv (.k (.int .i64 (-1))), none⟩])
 .ret) (.seq (.ops [⟨some 37, .mv (.t 5), none⟩,
  ⟨some 38, .bad, none⟩,
  ⟨some 39, .bin .leq (.t 37) (.t 38), none⟩,
  ⟨some 40, .mv (.t 39), none⟩,
  ⟨some 41, .mv (.t 0), some (40, true)⟩,
  ⟨some 42, .lns (.t 41), some (40, true)⟩,
  ⟨some 43, .bin .leq (.t 42) (.k (.int .i64 64)), some (40, true)⟩,
  ⟨some 44, .pick (.t 40) (.t 43) (.k (.bool false)), none⟩,
  ⟨some 36, .mv (.t 44), none⟩])
 (.cond (.t 36) (.seq (.ops [⟨some 45, .mv (.t 0), none⟩,
  ⟨some 46, .mv (.t 1), none⟩,
  ⟨some 47, .bad, none⟩,
  ⟨some 4, .mv (.t 47), none⟩])
 .ret) .skip)))))))))
 (.seq (.ops [⟨some 48, .mv (.t 1), none⟩,
  ⟨some 49, .ixs (.t 48) (.k (.int .i64 0)), none⟩,
  ⟨some 6, .mv (.t 49), none⟩])
 (.seq (.ops [⟨some 50, .mv (.t 1), none⟩,
  ⟨some 51, .ixs (.t 50) (.k (.int .i64 1)), none⟩,
  ⟨some 7, .mv (.t 51), none⟩])
 (.seq (.ops [⟨some 8, .mv (.k (.int .i64 0)), none⟩])
 (.seq (.ops [⟨some 52, .mv (.t 0), none⟩,
  ⟨some 53, .lns (.t 52), none⟩,
  ⟨some 54, .mv (.t 5), none⟩,
  ⟨some 55, .bin .sub (.t 53) (.t 54), none⟩,
  ⟨some 56, .bin .add (.t 55) (.k (.int .i64 1)), none⟩,
  ⟨some 9, .mv (.t 56), none⟩])
 (.seq (.ops [⟨some 10, .mv (.k (.int .i64 0)), none⟩])
 (.seq (.block 1 (.loop [0, 1, 5, 6, 7, 8, 9, 10, 85, 86, 87, 88, 89, 90, 91, 92, 103, 104, 105, 106, 122, 123, 124, 125, 126, 129, 130, 131] (.seq (.seq (.ops [⟨some 57, .mv (.t 8), none⟩,
  ⟨some 58, .mv (.t 9), none⟩,
  ⟨some 59, .bin .lss (.t 57) (.t 58), none⟩])
 (.cond (.t 59) .skip (.exit 1)))
 (.block 2 (.seq (.seq (.ops [⟨some 60, .mv (.t 0), none⟩,
  ⟨some 61, .mv (.t 8), none⟩,
  ⟨some 62, .ixs (.t 60) (.t 61), none⟩,
  ⟨some 63, .mv (.t 6), none⟩,
  ⟨some 64, .bin .neq (.t 62) (.t 63), none⟩])
 (.cond (.t 64) (.seq (.ops [⟨some 65, .mv (.t 0), none⟩,
  ⟨some 66, .mv (.t 8), none⟩,
  ⟨some 67, .bin .add (.t 66) (.k (.int .i64 1)), none⟩,
  ⟨some 68, .mv (.t 9), none⟩,
  ⟨some 69, .ss (.t 65) (some (.t 67)) (some (.t 68)), none⟩,
  ⟨some 70, .mv (.t 6), none⟩,
  ⟨some 71, .call 75 [(.t 69), (.t 70)], none⟩,
  ⟨some 11, .mv (.t 71), none⟩])
 (.seq (.seq (.ops [⟨some 72, .mv (.t 11), none⟩,
  ⟨some 73, .bin .lss (.t 72) (.k (.int .i64 0)), none⟩])
 (.cond (.t 73) (.seq (.ops [⟨some 4, .mv (.k (.int .i64 (-1))), none⟩])
 .ret) .skip))
 (.ops [⟨some 74, .mv (.t 8), none⟩,
  ⟨some 75, .mv (.t 11), none⟩,
  ⟨some 76, .bin .add (.t 75) (.k (.int .i64 1)), none⟩,
  ⟨some 77, .bin .add (.t 74) (.t 76), none⟩,
  ⟨some 8, .mv (.t 77), none⟩]))) .skip))
 (.seq (.seq (.ops [⟨some 78, .mv (.t 0), none⟩,
  ⟨some 79, .mv (.t 8), none⟩,
  ⟨some 80, .bin .add (.t 79) (.k (.int .i64 1)), none⟩,
  ⟨some 81, .ixs (.t 78) (.t 80), none⟩,
  ⟨some 82, .mv (.t 7), none⟩,
  ⟨some 83, .bin .eql (.t 81) (.t 82), none⟩,
  ⟨some 84, .mv (.t 83), none⟩,
  ⟨some 85, .mv (.t 0), some (84, true)⟩,
  ⟨some 86, .mv (.t 8), some (84, true)⟩,
  ⟨some 87, .mv (.t 8), some (84, true)⟩,
  ⟨some 88, .mv (.t 5), some (84, true)⟩,
  ⟨some 89, .bin .add (.t 87) (.t 88), some (84, true)⟩,
  ⟨some 90, .ss (.t 85) (some (.t 86)) (some (.t 89)), some (84, true)⟩,
  ⟨some 91, .mv (.t 1), some (84, true)⟩,
  ⟨some 92, .bin .eql (.t 90) (.t 91), some (84, true)⟩,
  ⟨some 93, .pick (.t 84) (.t 92) (.k (.bool false)), none⟩])
 (.cond (.t 93) (.seq (.ops [⟨some 94, .mv (.t 8), none⟩,
  ⟨some 4, .mv (.t 94), none⟩])
 .ret) .skip))
 (.seq (.ops [⟨some 95, .mv (.t 8), none⟩,
  ⟨some 96, .bin .add (.t 95) (.k (.int .i64 1)), none⟩,
  ⟨some 8, .mv (.t 96), none⟩])
 (.seq (.ops [⟨some 97, .mv (.t 10), none⟩,
  ⟨some 98, .bin .add (.t 97) (.k (.int .i64 1)), none⟩,
  ⟨some 10, .mv (.t 98), none⟩])
 (.seq (.ops [⟨some 99, .mv (.t 5), none⟩,
  ⟨some 100, .bad, none⟩,
  ⟨some 101, .bin .leq (.t 99) (.t 100), none⟩,
  ⟨some 102, .mv (.t 101), none⟩,
  ⟨some 103, .mv (.t 10), some (102, true)⟩,
  ⟨some 104, .mv (.t 8), some (102, true)⟩,
  ⟨some 105, .call 107 [(.t 104)], some (102, true)⟩,
  ⟨some 106, .bin .gtr (.t 103) (.t 105), some (102, true)⟩,
  ⟨some 107, .pick (.t 102) (.t 106) (.k (.bool false)), none⟩])
 (.cond (.t 107) (.seq (.ops [⟨some 108, .mv (.t 0), none⟩,
  ⟨some 109, .mv (.t 8), none⟩,
  ⟨some 110, .ss (.t 108) (some (.t 109)) none, none⟩,
  ⟨some 111, .mv (.t 1), none⟩,
  ⟨some 112, .bad, none⟩,
  ⟨some 12, .mv (.t 112), none⟩])
 (.seq (.seq (.ops [⟨some 113, .mv (.t 12), none⟩,
  ⟨some 114, .bin .geq (.t 113) (.k (.int .i64 0)), none⟩])
 (.cond (.t 114) (.seq (.ops [⟨some 115, .mv (.t 12), none⟩,
  ⟨some 116, .mv (.t 8), none⟩,
  ⟨some 117, .bin .add (.t 115) (.t 116), none⟩,
  ⟨some 4, .mv (.t 117), none⟩])
 .ret) .skip))
 (.seq (.ops [⟨some 4, .mv (.k (.int .i64 (-1))), none⟩])
 .ret))) (.seq (.ops [⟨some 118, .mv (.t 5), none⟩,
  ⟨some 119, .bad, none⟩,
  ⟨some 120, .bin .gtr (.t 118) (.t 119), none⟩,
  ⟨some 121, .mv (.t 120), none⟩,
  ⟨some 122, .mv (.t 10), some (121, true)⟩,
  ⟨some 123, .mv (.t 8), some (121, true)⟩,
  ⟨some 124, .bin .shr (.t 123) (.k (.int .u64 4)), some (121, true)⟩,
  ⟨some 125, .bin .add (.k (.int .i64 4)) (.t 124), some (121, true)⟩,
  ⟨some 126, .bin .geq (.t 122) (.t 125), some (121, true)⟩,
  ⟨some 127, .pick (.t 121) (.t 126) (.k (.bool false)), none⟩,
  ⟨some 128, .mv (.t 127), none⟩,
  ⟨some 129, .mv (.t 8), some (128, true)⟩,
  ⟨some 130, .mv (.t 9), some (128, true)⟩,
  ⟨some 131, .bin .lss (.t 129) (.t 130), some (128, true)⟩,
  ⟨some 132, .pick (.t 128) (.t 131) (.k (.bool false)), none⟩])
 (.cond (.t 132) (.seq (.ops [⟨some 133, .mv (.t 0), none⟩,
  ⟨some 134, .mv (.t 8), none⟩,
  ⟨some 135, .ss (.t 133) (some (.t 134)) none, none⟩,
  ⟨some 136, .mv (.t 1), none⟩,
  ⟨some 137, .call 108 [(.t 135), (.t 136)], none⟩,
  ⟨some 13, .mv (.t 137), none⟩])
 (.seq (.seq (.ops [⟨some 138, .mv (.t 13), none⟩,
  ⟨some 139, .bin .lss (.t 138) (.k (.int .i64 0)), none⟩])
 (.cond (.t 139) (.seq (.ops [⟨some 4, .mv (.k (.int .i64 (-1))), none⟩])
 .ret) .skip))
 (.seq (.ops [⟨some 140, .mv (.t 8), none⟩,
  ⟨some 141, .mv (.t 13), none⟩,
  ⟨some 142, .bin .add (.t 140) (.t 141), none⟩,
  ⟨some 4, .mv (.t 142), none⟩])
 .ret))) .skip))))))))))))
 (.seq (.ops [⟨some 4, .mv (.k (.int .i64 (-1))), none⟩])
 .ret)))))))))), [.tmp 4], true⟩
/-- strings.genSplit -/
def a83 : AFn := ⟨4, (.seq (.ops [⟨some 8, .mv (.k (.list true [])), none⟩])
 (.seq (.seq (.ops [⟨some 12, .mv (.t 3), none⟩,
  ⟨some 13, .bin .eql (.t 12) (.k (.int .i64 0)), none⟩])
 (.cond (.t 13) (.seq (.ops [⟨some 8, .mv (.k (.list true [])), none⟩])
 (.seq (.ops [⟨none, .frz (.sl .no) 8, none⟩]) .ret)) .skip))
 (.seq (.seq (.ops [⟨some 14, .mv (.t 1), none⟩,
  ⟨some 15, .bin .eql (.t 14) (.k (.str [])), none⟩])
 (.cond (.t 15) (.seq (.ops [⟨some 16, .mv (.t 0), none⟩,
  ⟨some 17, .mv (.t 3), none⟩,
  ⟨some 18, .call 115 [(.t 16), (.t 17)], none⟩,
  ⟨some 8, .mv (.t 18), none⟩])
 (.seq (.ops [⟨none, .frz (.sl .no) 8, none⟩]) .ret)) .skip))
 (.seq (.seq (.ops [⟨some 19, .mv (.t 3), none⟩,
  ⟨some 20, .bin .lss (.t 19) (.k (.int .i64 0)), none⟩])
 (.cond (.t 20) (.ops [⟨some 21, .mv (.t 0), none⟩,
  ⟨some 22, .mv (.t 1), none⟩,
  ⟨some 23, .call 81 [(.t 21), (.t 22)], none⟩,
  ⟨some 24, .bin .add (.t 23) (.k (.int .i64 1)), none⟩,
  ⟨some 3, .mv (.t 24), none⟩]) .skip))
 (.seq (.ops [⟨some 25, .mv (.t 3), none⟩,
  ⟨some 26, .mv (.t 0), none⟩,
  ⟨some 27, .lns (.t 26), none⟩,
  ⟨some 28, .bin .add (.t 27) (.k (.int .i64 1)), none⟩,
  ⟨some 29, .mnmx false (.t 25) (.t 28), none⟩,
  ⟨some 3, .mv (.t 29), none⟩])
 (.seq (.ops [⟨some 30, .mv (.t 3), none⟩,
  ⟨some 31, .mks 1 (.str []) (.t 30), none⟩,
  ⟨some 9, .mv (.t 31), none⟩])
 (.seq (.ops [⟨some 32, .mv (.t 3), none⟩,
  ⟨some 33, .bin .sub (.t 32) (.k (.int .i64 1)), none⟩,
  ⟨some 3, .mv (.t 33), none⟩])
 (.seq (.ops [⟨some 10, .mv (.k (.int .i64 0)), none⟩])
 (.seq (.block 0 (.loop [0, 1, 2, 3, 9, 10] (.seq (.seq (.ops [⟨some 34, .mv (.t 10), none⟩,
  ⟨some 35, .mv (.t 3), none⟩,
  ⟨some 36, .bin .lss (.t 34) (.t 35), none⟩])
 (.cond (.t 36) .skip (.exit 0)))
 (.block 1 (.seq (.ops [⟨some 37, .mv (.t 0), none⟩,
  ⟨some 38, .mv (.t 1), none⟩,
  ⟨some 39, .call 80 [(.t 37), (.t 38)], none⟩,
  ⟨some 11, .mv (.t 39), none⟩])
 (.seq (.seq (.ops [⟨some 40, .mv (.t 11), none⟩,
  ⟨some 41, .bin .lss (.t 40) (.k (.int .i64 0)), none⟩])
 (.cond (.t 41) (.exit 0) .skip))
 (.seq (.ops [⟨some 42, .mv (.t 9), none⟩,
  ⟨some 43, .mv (.t 10), none⟩,
  ⟨some 44, .mv (.t 0), none⟩,
  ⟨some 45, .mv (.t 11), none⟩,
  ⟨some 46, .mv (.t 2), none⟩,
  ⟨some 47, .bin .add (.t 45) (.t 46), none⟩,
  ⟨some 48, .ss (.t 44) none (some (.t 47)), none⟩,
  ⟨some 49, .ix 1 (.t 42) (.t 43), none⟩,
  ⟨none, .st 1 (.t 49) (.t 48), none⟩])
 (.seq (.ops [⟨some 50, .mv (.t 0), none⟩,
  ⟨some 51, .mv (.t 11), none⟩,
  ⟨some 52, .mv (.t 1), none⟩,
  ⟨some 53, .lns (.t 52), none⟩,
  ⟨some 54, .bin .add (.t 51) (.t 53), none⟩,
  ⟨some 55, .ss (.t 50) (some (.t 54)) none, none⟩,
  ⟨some 0, .mv (.t 55), none⟩])
 (.ops [⟨some 56, .mv (.t 10), none⟩,
  ⟨some 57, .bin .add (.t 56) (.k (.int .i64 1)), none⟩,
  ⟨some 10, .mv (.t 57), none⟩])))))))))
 (.seq (.ops [⟨some 58, .mv (.t 9), none⟩,
  ⟨some 59, .mv (.t 10), none⟩,
  ⟨some 60, .mv (.t 0), none⟩,
  ⟨some 61, .ix 1 (.t 58) (.t 59), none⟩,
  ⟨none, .st 1 (.t 61) (.t 60), none⟩])
 (.seq (.ops [⟨some 62, .mv (.t 9), none⟩,
  ⟨some 63, .mv (.t 10), none⟩,
  ⟨some 64, .bin .add (.t 63) (.k (.int .i64 1)), none⟩,
  ⟨some 65, .sl 1 (.t 62) none (some (.t 64)) none, none⟩,
  ⟨some 8, .mv (.t 65), none⟩])
 (.seq (.ops [⟨none, .frz (.sl .no) 8, none⟩]) .ret)))))))))))), [.tmp 8], true⟩
/-- eyot/gram.sizes -/
def a84 : AFn := ⟨1, (.seq (.ops [⟨some 1, .bim 7 (.t 0), none⟩])
 (.seq (.ops [⟨some 2, .fa 0 1 false (.t 1), none⟩,
  ⟨some 3, .ldi 1 false (.t 2), none⟩,
  ⟨some 4, .len (.t 3), none⟩,
  ⟨some 5, .fa 1 1 false (.t 1), none⟩,
  ⟨some 6, .ldi 1 false (.t 5), none⟩,
  ⟨some 7, .len (.t 6), none⟩,
  ⟨some 8, .fa 3 1 false (.t 1), none⟩,
  ⟨some 9, .ldi 1 false (.t 8), none⟩,
  ⟨some 10, .len (.t 9), none⟩,
  ⟨some 11, .nat 5 [(.t 4), (.t 7), (.t 10)], none⟩,
  ⟨some 12, .bin .gtr (.t 11) (.k (.int .i64 0)), none⟩,
  ⟨some 13, .call 53 [(.t 12), (.k (.int .i64 0))], none⟩])
 (.ops [⟨some 14, .fa 0 1 false (.t 1), none⟩,
  ⟨some 15, .ldi 1 false (.t 14), none⟩,
  ⟨some 16, .len (.t 15), none⟩,
  ⟨some 17, .bin .leq (.t 16) (.k (.int .i64 10)), none⟩,
  ⟨some 18, .mv (.t 17), none⟩,
  ⟨some 19, .fa 1 1 false (.t 1), some (18, true)⟩,
  ⟨some 20, .ldi 1 false (.t 19), some (18, true)⟩,
  ⟨some 21, .len (.t 20), some (18, true)⟩,
  ⟨some 22, .bin .leq (.t 21) (.k (.int .i64 12)), some (18, true)⟩,
  ⟨some 23, .pick (.t 18) (.t 22) (.k (.bool false)), none⟩,
  ⟨some 24, .mv (.t 23), none⟩,
  ⟨some 25, .fa 2 1 false (.t 1), some (24, true)⟩,
  ⟨some 26, .ldi 1 false (.t 25), some (24, true)⟩,
  ⟨some 27, .len (.t 26), some (24, true)⟩,
  ⟨some 28, .bin .leq (.t 27) (.k (.int .i64 6)), some (24, true)⟩,
  ⟨some 29, .pick (.t 24) (.t 28) (.k (.bool false)), none⟩,
  ⟨some 30, .mv (.t 29), none⟩,
  ⟨some 31, .fa 3 1 false (.t 1), some (30, true)⟩,
  ⟨some 32, .ldi 1 false (.t 31), some (30, true)⟩,
  ⟨some 33, .len (.t 32), some (30, true)⟩,
  ⟨some 34, .bin .leq (.t 33) (.k (.int .i64 24)), some (30, true)⟩,
  ⟨some 35, .pick (.t 30) (.t 34) (.k (.bool false)), none⟩,
  ⟨some 36, .call 53 [(.t 35), (.k (.int .i64 0))], none⟩]))), [], true⟩
/-- eyot/class.runs -/
def a85 : AFn := ⟨1, (.seq (.ops [⟨some 1, .bim 4 (.t 0), none⟩,
  ⟨some 2, .mv (.k (.list true [])), none⟩])
 (.seq (.ops [⟨some 3, .mv (.k (.list true [])), none⟩])
 (.seq (.seq (.ops [⟨some 6, .mv (.k (.int .i64 0)), none⟩])
 (.block 0 (.loop [1, 3, 6, 30, 31, 32, 33, 34, 35, 36, 37, 38] (.seq (.ops [⟨some 7, .bin .lss (.t 6) (.k (.int .i64 256)), none⟩])
 (.seq (.cond (.t 7) .skip (.exit 0))
 (.seq (.block 1 (.seq (.ops [⟨some 8, .mv (.t 6), none⟩,
  ⟨some 4, .mv (.t 8), none⟩])
 (.seq (.ops [⟨some 9, .mv (.t 3), none⟩,
  ⟨some 10, .len (.t 9), none⟩,
  ⟨some 11, .bin .sub (.t 10) (.k (.int .i64 1)), none⟩,
  ⟨some 5, .mv (.t 11), none⟩])
 (.block 2 (.seq (.ops [⟨some 21, .ldi 4 true (.t 1), none⟩,
  ⟨some 22, .mv (.t 4), none⟩,
  ⟨some 23, .cvi .u8 (.t 22), none⟩,
  ⟨some 24, .call 0 [(.t 21), (.t 23)], none⟩,
  ⟨some 25, .un .not (.t 24), none⟩,
  ⟨some 20, .mv (.t 25), none⟩])
 (.cond (.t 20) .skip (.seq (.ops [⟨some 27, .mv (.t 5), none⟩,
  ⟨some 28, .bin .geq (.t 27) (.k (.int .i64 0)), none⟩,
  ⟨some 29, .mv (.t 28), none⟩,
  ⟨some 30, .mv (.t 3), some (29, true)⟩,
  ⟨some 31, .mv (.t 5), some (29, true)⟩,
  ⟨some 32, .ix 2 (.t 30) (.t 31), some (29, true)⟩,
  ⟨some 33, .ia 2 1 false (.t 32) (.k (.int .i64 1)), some (29, true)⟩,
  ⟨some 34, .ld 1 false (.t 33), some (29, true)⟩,
  ⟨some 35, .cvi .i64 (.t 34), some (29, true)⟩,
  ⟨some 36, .mv (.t 4), some (29, true)⟩,
  ⟨some 37, .bin .sub (.t 36) (.k (.int .i64 1)), some (29, true)⟩,
  ⟨some 38, .bin .eql (.t 35) (.t 37), some (29, true)⟩,
  ⟨some 39, .pick (.t 29) (.t 38) (.k (.bool false)), none⟩,
  ⟨some 26, .mv (.t 39), none⟩])
 (.cond (.t 26) (.ops [⟨some 40, .mv (.t 3), none⟩,
  ⟨some 41, .mv (.t 5), none⟩,
  ⟨some 42, .mv (.t 4), none⟩,
  ⟨some 43, .cvi .u8 (.t 42), none⟩,
  ⟨some 44, .ix 2 (.t 40) (.t 41), none⟩,
  ⟨some 45, .ia 2 1 false (.t 44) (.k (.int .i64 1)), none⟩,
  ⟨none, .st 1 (.t 45) (.t 43), none⟩]) (.ops [⟨some 12, .mv (.t 3), none⟩,
  ⟨some 13, .mv (.t 4), none⟩,
  ⟨some 14, .cvi .u8 (.t 13), none⟩,
  ⟨some 15, .mv (.t 4), none⟩,
  ⟨some 16, .cvi .u8 (.t 15), none⟩,
  ⟨some 17, .bld (.agg ([.int .u8 0, .int .u8 0])) [((0, 1), (.t 14)), ((1, 1), (.t 16))], none⟩,
  ⟨some 18, .mkl (.agg ([.int .u8 0, .int .u8 0])) 1 [(0, (.t 17))], none⟩,
  ⟨some 19, .app 2 (.t 12) (.t 18), none⟩,
  ⟨some 3, .mv (.t 19), none⟩])))))))))
 (.ops [⟨some 46, .bin .add (.t 6) (.k (.int .i64 1)), none⟩,
  ⟨some 6, .mv (.t 46), none⟩])))))))
 (.seq (.ops [⟨some 47, .mv (.t 3), none⟩,
  ⟨some 2, .mv (.t 47), none⟩])
 (.seq (.ops [⟨none, .frz (.sl .no) 2, none⟩]) .ret))))), [.tmp 2], true⟩
/-- eyot/class.sign -/
def a86 : AFn := ⟨1, (.seq (.ops [⟨some 2, .mv (.k (.str [])), none⟩])
 (.seq (.block 0 (.seq (.seq (.ops [⟨some 4, .mv (.t 0), none⟩,
  ⟨some 5, .bin .lss (.t 4) (.k (.int .u8 33)), none⟩,
  ⟨some 3, .mv (.t 5), none⟩])
 (.cond (.t 3) .skip (.ops [⟨some 6, .mv (.t 0), none⟩,
  ⟨some 7, .bin .gtr (.t 6) (.k (.int .u8 126)), none⟩,
  ⟨some 3, .mv (.t 7), none⟩])))
 (.cond (.t 3) (.seq (.dops [⟨some 8, .mv (.t 0), none⟩,
  ⟨some 9, .bin .shr (.t 8) (.k (.int .u64 4)), none⟩,
  ⟨some 10, .mv (.t 0), none⟩,
  ⟨some 11, .bin .shr (.t 10) (.k (.int .u64 4)), none⟩,
  ⟨some 12, .bin .add (.t 11) (.k (.int .u8 1)), none⟩,
  ⟨some 13, .ss (.k (.str [48, 49, 50, 51, 52, 53, 54, 55, 56, 57, 97, 98, 99, 100, 101, 102])) (some (.t 9)) (some (.t 12)), none⟩,
  ⟨some 14, .bin .add (.k (.str [92, 120])) (.t 13), none⟩,
  ⟨some 15, .mv (.t 0), none⟩,
  ⟨some 16, .bin .and (.t 15) (.k (.int .u8 15)), none⟩,
  ⟨some 17, .mv (.t 0), none⟩,
  ⟨some 18, .bin .and (.t 17) (.k (.int .u8 15)), none⟩,
  ⟨some 19, .bin .add (.t 18) (.k (.int .u8 1)), none⟩,
  ⟨some 20, .ss (.k (.str [48, 49, 50, 51, 52, 53, 54, 55, 56, 57, 97, 98, 99, 100, 101, 102])) (some (.t 16)) (some (.t 19)), none⟩,
  ⟨some 21, .bin .add (.t 14) (.t 20), none⟩,
  ⟨some 2, .mv (.t 21), none⟩])
 .ret) (.seq (.ops [⟨some 23, .mv (.t 0), none⟩,
  ⟨some 24, .call 12 [(.k (.str [92, 124, 42, 43, 63, 40, 41, 91, 93, 46, 94, 45])), (.t 23)], none⟩,
  ⟨some 25, .bin .geq (.t 24) (.k (.int .i64 0)), none⟩,
  ⟨some 22, .mv (.t 25), none⟩])
 (.cond (.t 22) (.seq (.ops [⟨some 26, .mv (.t 0), none⟩,
  ⟨some 27, .mkl (.int .u8 0) 1 [(0, (.t 26))], none⟩,
  ⟨some 28, .cvb (.t 27), none⟩,
  ⟨some 29, .bin .add (.k (.str [92])) (.t 28), none⟩,
  ⟨some 2, .mv (.t 29), none⟩])
 .ret) .skip)))))
 (.seq (.ops [⟨some 30, .mv (.t 0), none⟩,
  ⟨some 31, .mkl (.int .u8 0) 1 [(0, (.t 30))], none⟩,
  ⟨some 32, .cvb (.t 31), none⟩,
  ⟨some 2, .mv (.t 32), none⟩])
 .ret))), [.tmp 2], true⟩
/-- eyot/class.Show -/
def a87 : AFn := ⟨1, (.seq (.ops [⟨some 1, .bim 4 (.t 0), none⟩,
  ⟨some 2, .mv (.k (.str [])), none⟩])
 (.seq (.ops [⟨some 7, .ldi 4 true (.t 1), none⟩,
  ⟨some 8, .call 85 [(.t 7)], none⟩,
  ⟨some 3, .mv (.t 8), none⟩])
 (.seq (.block 0 (.seq (.ops [⟨some 10, .mv (.t 3), none⟩,
  ⟨some 11, .len (.t 10), none⟩,
  ⟨some 12, .bin .eql (.t 11) (.k (.int .i64 0)), none⟩,
  ⟨some 9, .mv (.t 12), none⟩])
 (.cond (.t 9) (.seq (.ops [⟨some 2, .mv (.k (.str [])), none⟩])
 .ret) (.seq (.dops [⟨some 14, .ldi 4 true (.t 1), none⟩,
  ⟨some 15, .bld (.agg ([.int .u64 0, .int .u64 0, .int .u64 0, .int .u64 0])) [], none⟩,
  ⟨some 16, .call 8 [(.t 15)], none⟩,
  ⟨some 17, .eq false (.agg [.i, .i, .i, .i]) (.t 14) (.t 16), none⟩,
  ⟨some 13, .mv (.t 17), none⟩])
 (.cond (.t 13) (.seq (.ops [⟨some 2, .mv (.k (.str [46])), none⟩])
 .ret) (.seq (.dops [⟨some 19, .mv (.t 3), none⟩,
  ⟨some 20, .len (.t 19), none⟩,
  ⟨some 21, .bin .eql (.t 20) (.k (.int .i64 1)), none⟩,
  ⟨some 22, .mv (.t 21), none⟩,
  ⟨some 23, .mv (.t 3), some (22, true)⟩,
  ⟨some 24, .ix 2 (.t 23) (.k (.int .i64 0)), some (22, true)⟩,
  ⟨some 25, .ia 2 1 false (.t 24) (.k (.int .i64 0)), some (22, true)⟩,
  ⟨some 26, .ld 1 false (.t 25), some (22, true)⟩,
  ⟨some 27, .mv (.t 3), some (22, true)⟩,
  ⟨some 28, .ix 2 (.t 27) (.k (.int .i64 0)), some (22, true)⟩,
  ⟨some 29, .ia 2 1 false (.t 28) (.k (.int .i64 1)), some (22, true)⟩,
  ⟨some 30, .ld 1 false (.t 29), some (22, true)⟩,
  ⟨some 31, .bin .eql (.t 26) (.t 30), some (22, true)⟩,
  ⟨some 32, .pick (.t 22) (.t 31) (.k (.bool false)), none⟩,
  ⟨some 18, .mv (.t 32), none⟩])
 (.cond (.t 18) (.seq (.ops [⟨some 33, .mv (.t 3), none⟩,
  ⟨some 34, .ix 2 (.t 33) (.k (.int .i64 0)), none⟩,
  ⟨some 35, .ia 2 1 false (.t 34) (.k (.int .i64 0)), none⟩,
  ⟨some 36, .ld 1 false (.t 35), none⟩,
  ⟨some 37, .call 86 [(.t 36)], none⟩,
  ⟨some 2, .mv (.t 37), none⟩])
 .ret) .skip)))))))
 (.seq (.ops [⟨some 4, .mv (.k (.str [91])), none⟩])
 (.seq (.seq (.ops [⟨some 38, .mv (.t 3), none⟩,
  ⟨some 39, .len (.t 38), none⟩,
  ⟨some 40, .mv (.k (.int .i64 0)), none⟩])
 (.block 1 (.loop [4, 38, 39, 40] (.seq (.ops [⟨some 41, .bin .lss (.t 40) (.t 39), none⟩])
 (.seq (.cond (.t 41) .skip (.exit 1))
 (.seq (.block 2 (.seq (.ops [⟨some 42, .ix 2 (.t 38) (.t 40), none⟩,
  ⟨some 43, .ld 2 true (.t 42), none⟩,
  ⟨some 6, .alv ([.int .u8 0, .int .u8 0]), none⟩,
  ⟨none, .st 2 (.t 6) (.t 43), none⟩])
 (.ops [⟨some 44, .mv (.t 4), none⟩,
  ⟨some 45, .ldl 2 true 6, none⟩,
  ⟨some 46, .call 116 [(.t 45)], none⟩,
  ⟨some 47, .bin .add (.t 44) (.t 46), none⟩,
  ⟨some 4, .mv (.t 47), none⟩])))
 (.ops [⟨some 48, .bin .add (.t 40) (.k (.int .i64 1)), none⟩,
  ⟨some 40, .mv (.t 48), none⟩])))))))
 (.seq (.ops [⟨some 49, .mv (.t 4), none⟩,
  ⟨some 50, .bin .add (.t 49) (.k (.str [93])), none⟩,
  ⟨some 2, .mv (.t 50), none⟩])
 .ret)))))), [.tmp 2], true⟩
/-- eyot/eyotlaw14.begun -/
def a88 : AFn := ⟨0, (.seq (.ops [⟨some 0, .mv (.k (.bool false)), none⟩])
 (.seq (.ops [⟨some 8, .call 42 [(.k (.int .u8 0))], none⟩,
  ⟨some 9, .call 67 [(.t 8)], none⟩,
  ⟨some 7, .mv (.t 9), none⟩,
  ⟨some 10, .ext 0 (.t 7), none⟩,
  ⟨some 11, .ext 1 (.t 7), none⟩,
  ⟨some 12, .ext 2 (.t 7), none⟩,
  ⟨some 1, .alv (List.replicate 6 (.list true []) ++ [.int .i64 0]), none⟩,
  ⟨none, .st 7 (.t 1) (.t 10), none⟩,
  ⟨some 2, .mv (.t 11), none⟩,
  ⟨some 3, .mv (.t 12), none⟩])
 (.seq (.ops [⟨some 14, .call 67 [(.k (.str [116, 111, 107, 101, 110, 10]))], none⟩,
  ⟨some 13, .mv (.t 14), none⟩,
  ⟨some 15, .ext 0 (.t 13), none⟩,
  ⟨some 16, .ext 1 (.t 13), none⟩,
  ⟨some 17, .ext 2 (.t 13), none⟩,
  ⟨some 4, .alv (List.replicate 6 (.list true []) ++ [.int .i64 0]), none⟩,
  ⟨none, .st 7 (.t 4) (.t 15), none⟩,
  ⟨some 5, .mv (.t 16), none⟩,
  ⟨some 6, .mv (.t 17), none⟩])
 (.seq (.ops [⟨some 18, .mv (.t 3), none⟩,
  ⟨some 19, .bin .eql (.t 18) (.k (.int .i64 0)), none⟩,
  ⟨some 20, .mv (.t 19), none⟩,
  ⟨some 21, .mv (.t 2), some (20, true)⟩,
  ⟨some 22, .bin .eql (.t 21) (.k (.int .i64 0)), some (20, true)⟩,
  ⟨some 23, .pick (.t 20) (.t 22) (.k (.bool false)), none⟩,
  ⟨some 24, .mv (.t 23), none⟩,
  ⟨some 25, .fa 3 1 false (.t 1), some (24, true)⟩,
  ⟨some 26, .ldp 1 false (.t 25), some (24, true)⟩,
  ⟨some 27, .len (.t 26), some (24, true)⟩,
  ⟨some 28, .bin .eql (.t 27) (.k (.int .i64 3)), some (24, true)⟩,
  ⟨some 29, .pick (.t 24) (.t 28) (.k (.bool false)), none⟩,
  ⟨some 30, .mv (.t 29), none⟩,
  ⟨some 31, .fa 0 1 false (.t 1), some (30, true)⟩,
  ⟨some 32, .ldp 1 false (.t 31), some (30, true)⟩,
  ⟨some 33, .len (.t 32), some (30, true)⟩,
  ⟨some 34, .bin .eql (.t 33) (.k (.int .i64 3)), some (30, true)⟩,
  ⟨some 35, .pick (.t 30) (.t 34) (.k (.bool false)), none⟩,
  ⟨some 36, .mv (.t 35), none⟩,
  ⟨some 37, .mv (.t 6), some (36, true)⟩,
  ⟨some 38, .bin .eql (.t 37) (.k (.int .i64 5)), some (36, true)⟩,
  ⟨some 39, .pick (.t 36) (.t 38) (.k (.bool false)), none⟩,
  ⟨some 40, .mv (.t 39), none⟩,
  ⟨some 41, .mv (.t 5), some (40, true)⟩,
  ⟨some 42, .bin .eql (.t 41) (.k (.int .i64 1)), some (40, true)⟩,
  ⟨some 43, .pick (.t 40) (.t 42) (.k (.bool false)), none⟩,
  ⟨some 44, .mv (.t 43), none⟩,
  ⟨some 45, .ldl 7 true 1, some (44, true)⟩,
  ⟨some 46, .call 89 [(.t 45)], some (44, true)⟩,
  ⟨some 47, .call 42 [(.k (.int .u8 0))], some (44, true)⟩,
  ⟨some 48, .bin .eql (.t 46) (.t 47), some (44, true)⟩,
  ⟨some 49, .pick (.t 44) (.t 48) (.k (.bool false)), none⟩,
  ⟨some 0, .mv (.t 49), none⟩])
 .ret)))), [.tmp 0], true⟩
/-- eyot/gtext.Show -/
def a89 : AFn := ⟨1, (.seq (.ops [⟨some 1, .bim 7 (.t 0), none⟩,
  ⟨some 2, .mv (.k (.str [])), none⟩])
 (.seq (.seq (.ops [⟨some 14, .ldi 7 true (.t 1), none⟩,
  ⟨some 15, .call 45 [(.t 14)], none⟩,
  ⟨some 13, .mv (.t 15), none⟩,
  ⟨some 16, .ext 0 (.t 13), none⟩,
  ⟨some 17, .ext 1 (.t 13), none⟩,
  ⟨some 3, .mv (.t 16), none⟩,
  ⟨some 4, .mv (.t 17), none⟩])
 (.seq (.ops [⟨some 18, .mv (.t 4), none⟩,
  ⟨some 19, .bin .neq (.t 18) (.k (.int .i64 0)), none⟩])
 (.cond (.t 19) (.seq (.ops [⟨some 2, .mv (.k (.str [])), none⟩])
 .ret) .skip)))
 (.seq (.ops [⟨some 5, .mv (.k (.str [])), none⟩])
 (.seq (.seq (.ops [⟨some 20, .fa 0 1 false (.t 1), none⟩,
  ⟨some 21, .ldi 1 false (.t 20), none⟩,
  ⟨some 22, .len (.t 21), none⟩,
  ⟨some 23, .mv (.k (.int .i64 0)), none⟩])
 (.block 0 (.loop [1, 5, 21, 22, 23] (.seq (.ops [⟨some 24, .bin .lss (.t 23) (.t 22), none⟩])
 (.seq (.cond (.t 24) .skip (.exit 0))
 (.seq (.block 1 (.seq (.ops [⟨some 25, .ix 8 (.t 21) (.t 23), none⟩,
  ⟨some 26, .ld 8 true (.t 25), none⟩,
  ⟨some 7, .alv ([.str [], .int .i64 0, .int .u64 0, .int .u64 0, .int .u64 0, .int .u64 0, .list true [], .bool false]), none⟩,
  ⟨none, .st 8 (.t 7) (.t 26), none⟩])
 (.seq (.ops [⟨some 8, .mv (.k (.str [116, 111, 107, 101, 110])), none⟩])
 (.seq (.seq (.ops [⟨some 27, .fa 7 1 false (.t 7), none⟩,
  ⟨some 28, .ldp 1 false (.t 27), none⟩])
 (.cond (.t 28) (.ops [⟨some 8, .mv (.k (.str [116, 114, 105, 118, 105, 97])), none⟩]) .skip))
 (.dops [⟨some 29, .mv (.t 5), none⟩,
  ⟨some 30, .mv (.t 8), none⟩,
  ⟨some 31, .bin .add (.t 30) (.k (.str [32])), none⟩,
  ⟨some 32, .fa 0 1 false (.t 7), none⟩,
  ⟨some 33, .ldp 1 false (.t 32), none⟩,
  ⟨some 34, .bin .add (.t 31) (.t 33), none⟩,
  ⟨some 35, .bin .add (.t 34) (.k (.str [32, 61, 32])), none⟩,
  ⟨some 36, .fa 1 6 true (.t 7), none⟩,
  ⟨some 37, .ldp 6 true (.t 36), none⟩,
  ⟨some 38, .call 90 [(.t 37)], none⟩,
  ⟨some 39, .bin .add (.t 35) (.t 38), none⟩,
  ⟨some 40, .bin .add (.t 39) (.k (.str [10])), none⟩,
  ⟨some 41, .bin .add (.t 29) (.t 40), none⟩,
  ⟨some 5, .mv (.t 41), none⟩])))))
 (.ops [⟨some 42, .bin .add (.t 23) (.k (.int .i64 1)), none⟩,
  ⟨some 23, .mv (.t 42), none⟩])))))))
 (.seq (.seq (.ops [⟨some 43, .fa 2 1 false (.t 1), none⟩,
  ⟨some 44, .ldi 1 false (.t 43), none⟩,
  ⟨some 45, .len (.t 44), none⟩,
  ⟨some 46, .mv (.k (.int .i64 0)), none⟩])
 (.block 2 (.loop [1, 5, 44, 45, 46] (.seq (.ops [⟨some 47, .bin .lss (.t 46) (.t 45), none⟩])
 (.seq (.cond (.t 47) .skip (.exit 2))
 (.seq (.block 3 (.seq (.ops [⟨some 48, .ix 2 (.t 44) (.t 46), none⟩,
  ⟨some 49, .ld 2 true (.t 48), none⟩,
  ⟨some 10, .alv ([.str [], .str []]), none⟩,
  ⟨none, .st 2 (.t 10) (.t 49), none⟩])
 (.ops [⟨some 50, .mv (.t 5), none⟩,
  ⟨some 51, .fa 0 1 false (.t 10), none⟩,
  ⟨some 52, .ldp 1 false (.t 51), none⟩,
  ⟨some 53, .bin .add (.k (.str [115, 99, 111, 112, 101, 32])) (.t 52), none⟩,
  ⟨some 54, .bin .add (.t 53) (.k (.str [32, 61, 32])), none⟩,
  ⟨some 55, .fa 1 1 false (.t 10), none⟩,
  ⟨some 56, .ldp 1 false (.t 55), none⟩,
  ⟨some 57, .bin .add (.t 54) (.t 56), none⟩,
  ⟨some 58, .bin .add (.t 57) (.k (.str [10])), none⟩,
  ⟨some 59, .bin .add (.t 50) (.t 58), none⟩,
  ⟨some 5, .mv (.t 59), none⟩])))
 (.ops [⟨some 60, .bin .add (.t 46) (.k (.int .i64 1)), none⟩,
  ⟨some 46, .mv (.t 60), none⟩])))))))
 (.seq (.seq (.ops [⟨some 61, .fa 3 1 false (.t 1), none⟩,
  ⟨some 62, .ldi 1 false (.t 61), none⟩,
  ⟨some 63, .len (.t 62), none⟩,
  ⟨some 64, .mv (.k (.int .i64 0)), none⟩])
 (.block 4 (.loop [1, 5, 62, 63, 64] (.seq (.ops [⟨some 65, .bin .lss (.t 64) (.t 63), none⟩])
 (.seq (.cond (.t 65) .skip (.exit 4))
 (.seq (.block 5 (.seq (.ops [⟨some 66, .ix 3 (.t 62) (.t 64), none⟩,
  ⟨some 67, .ld 3 true (.t 66), none⟩,
  ⟨some 12, .alv ([.int .i64 0, .list true [], .int .i64 0]), none⟩,
  ⟨none, .st 3 (.t 12) (.t 67), none⟩])
 (.dops [⟨some 68, .mv (.t 5), none⟩,
  ⟨some 69, .fa 1 1 false (.t 1), none⟩,
  ⟨some 70, .ldi 1 false (.t 69), none⟩,
  ⟨some 71, .fa 0 1 false (.t 12), none⟩,
  ⟨some 72, .ldp 1 false (.t 71), none⟩,
  ⟨some 73, .ix 1 (.t 70) (.t 72), none⟩,
  ⟨some 74, .ld 1 false (.t 73), none⟩,
  ⟨some 75, .bin .add (.k (.str [114, 117, 108, 101, 32])) (.t 74), none⟩,
  ⟨some 76, .bin .add (.t 75) (.k (.str [32, 61])), none⟩,
  ⟨some 77, .ldi 7 true (.t 1), none⟩,
  ⟨some 78, .ldl 3 true 12, none⟩,
  ⟨some 79, .call 91 [(.t 77), (.t 78)], none⟩,
  ⟨some 80, .bin .add (.t 76) (.t 79), none⟩,
  ⟨some 81, .bin .add (.t 80) (.k (.str [10])), none⟩,
  ⟨some 82, .bin .add (.t 68) (.t 81), none⟩,
  ⟨some 5, .mv (.t 82), none⟩])))
 (.ops [⟨some 83, .bin .add (.t 64) (.k (.int .i64 1)), none⟩,
  ⟨some 64, .mv (.t 83), none⟩])))))))
 (.seq (.dops [⟨some 84, .mv (.t 5), none⟩,
  ⟨some 85, .bin .add (.t 84) (.k (.str [115, 121, 110, 99])), none⟩,
  ⟨some 86, .fa 4 1 false (.t 1), none⟩,
  ⟨some 87, .ldi 1 false (.t 86), none⟩,
  ⟨some 88, .call 92 [(.t 87)], none⟩,
  ⟨some 89, .bin .add (.t 85) (.t 88), none⟩,
  ⟨some 90, .bin .add (.t 89) (.k (.str [32, 124])), none⟩,
  ⟨some 91, .fa 5 1 false (.t 1), none⟩,
  ⟨some 92, .ldi 1 false (.t 91), none⟩,
  ⟨some 93, .call 92 [(.t 92)], none⟩,
  ⟨some 94, .bin .add (.t 90) (.t 93), none⟩,
  ⟨some 95, .bin .add (.t 94) (.k (.str [10, 109, 97, 120, 32])), none⟩,
  ⟨some 96, .fa 6 1 false (.t 1), none⟩,
  ⟨some 97, .ldi 1 false (.t 96), none⟩,
  ⟨some 98, .call 79 [(.t 97)], none⟩,
  ⟨some 99, .bin .add (.t 95) (.t 98), none⟩,
  ⟨some 100, .bin .add (.t 99) (.k (.str [10])), none⟩,
  ⟨some 2, .mv (.t 100), none⟩])
 .ret))))))), [.tmp 2], true⟩
/-- eyot/regex.Show -/
def a90 : AFn := ⟨1, (.seq (.ops [⟨some 1, .bim 6 (.t 0), none⟩,
  ⟨some 2, .mv (.k (.str [])), none⟩])
 (.seq (.seq (.ops [⟨some 8, .fa 0 1 false (.t 1), none⟩,
  ⟨some 9, .ldi 1 false (.t 8), none⟩,
  ⟨some 10, .bin .eql (.t 9) (.k (.int .i64 1)), none⟩])
 (.cond (.t 10) (.seq (.ops [⟨some 11, .fa 1 4 true (.t 1), none⟩,
  ⟨some 12, .ldi 4 true (.t 11), none⟩,
  ⟨some 13, .call 87 [(.t 12)], none⟩,
  ⟨some 2, .mv (.t 13), none⟩])
 .ret) .skip))
 (.seq (.ops [⟨some 14, .fa 0 1 false (.t 1), none⟩,
  ⟨some 15, .ldi 1 false (.t 14), none⟩,
  ⟨some 16, .call 117 [(.t 15)], none⟩,
  ⟨some 17, .bin .add (.t 16) (.k (.int .i64 1)), none⟩,
  ⟨some 3, .mv (.t 17), none⟩])
 (.seq (.ops [⟨some 4, .mv (.k (.list true [])), none⟩])
 (.seq (.seq (.ops [⟨some 18, .fa 5 1 false (.t 1), none⟩,
  ⟨some 19, .ldi 1 false (.t 18), none⟩,
  ⟨some 20, .len (.t 19), none⟩,
  ⟨some 21, .mv (.k (.int .i64 0)), none⟩])
 (.block 0 (.loop [1, 3, 4, 19, 20, 21] (.seq (.ops [⟨some 22, .bin .lss (.t 21) (.t 20), none⟩])
 (.seq (.cond (.t 22) .skip (.exit 0))
 (.seq (.block 1 (.seq (.ops [⟨some 23, .ix 6 (.t 19) (.t 21), none⟩,
  ⟨some 24, .ld 6 true (.t 23), none⟩,
  ⟨some 6, .alv ([.int .i64 0, .int .u64 0, .int .u64 0, .int .u64 0, .int .u64 0, .list true []]), none⟩,
  ⟨none, .st 6 (.t 6) (.t 24), none⟩])
 (.ops [⟨some 25, .mv (.t 4), none⟩,
  ⟨some 26, .ldl 6 true 6, none⟩,
  ⟨some 27, .mv (.t 3), none⟩,
  ⟨some 28, .call 118 [(.t 26), (.t 27)], none⟩,
  ⟨some 29, .mkl (.str []) 1 [(0, (.t 28))], none⟩,
  ⟨some 30, .app 1 (.t 25) (.t 29), none⟩,
  ⟨some 4, .mv (.t 30), none⟩])))
 (.ops [⟨some 31, .bin .add (.t 21) (.k (.int .i64 1)), none⟩,
  ⟨some 21, .mv (.t 31), none⟩])))))))
 (.seq (.block 2 (.seq (.ops [⟨some 33, .fa 0 1 false (.t 1), none⟩,
  ⟨some 34, .ldi 1 false (.t 33), none⟩,
  ⟨some 35, .bin .eql (.t 34) (.k (.int .i64 3)), none⟩,
  ⟨some 32, .mv (.t 35), none⟩])
 (.cond (.t 32) (.seq (.ops [⟨some 36, .mv (.t 4), none⟩,
  ⟨some 37, .call 119 [(.t 36), (.k (.str [124]))], none⟩,
  ⟨some 2, .mv (.t 37), none⟩])
 .ret) (.seq (.ops [⟨some 39, .fa 0 1 false (.t 1), none⟩,
  ⟨some 40, .ldi 1 false (.t 39), none⟩,
  ⟨some 41, .call 97 [(.t 40)], none⟩,
  ⟨some 38, .mv (.t 41), none⟩])
 (.cond (.t 38) (.seq (.ops [⟨some 42, .fa 0 1 false (.t 1), none⟩,
  ⟨some 43, .ldi 1 false (.t 42), none⟩,
  ⟨some 44, .bin .sub (.t 43) (.k (.int .i64 4)), none⟩,
  ⟨some 7, .mv (.t 44), none⟩])
 (.seq (.dops [⟨some 45, .mv (.t 4), none⟩,
  ⟨some 46, .call 119 [(.t 45), (.k (.str []))], none⟩,
  ⟨some 47, .mv (.t 7), none⟩,
  ⟨some 48, .mv (.t 7), none⟩,
  ⟨some 49, .bin .add (.t 48) (.k (.int .i64 1)), none⟩,
  ⟨some 50, .ss (.k (.str [42, 43, 63])) (some (.t 47)) (some (.t 49)), none⟩,
  ⟨some 51, .bin .add (.t 46) (.t 50), none⟩,
  ⟨some 2, .mv (.t 51), none⟩])
 .ret)) .skip)))))
 (.seq (.ops [⟨some 52, .mv (.t 4), none⟩,
  ⟨some 53, .call 119 [(.t 52), (.k (.str []))], none⟩,
  ⟨some 2, .mv (.t 53), none⟩])
 .ret))))))), [.tmp 2], true⟩
/-- eyot/gtext.symbols -/
def a91 : AFn := ⟨2, (.seq (.ops [⟨some 2, .bim 7 (.t 0), none⟩,
  ⟨some 3, .bim 3 (.t 1), none⟩,
  ⟨some 4, .mv (.k (.str [])), none⟩])
 (.seq (.ops [⟨some 5, .mv (.k (.list true [])), none⟩])
 (.seq (.seq (.ops [⟨some 8, .fa 1 1 false (.t 3), none⟩,
  ⟨some 9, .ldi 1 false (.t 8), none⟩,
  ⟨some 10, .len (.t 9), none⟩,
  ⟨some 11, .mv (.k (.int .i64 0)), none⟩])
 (.block 0 (.loop [2, 3, 5, 9, 10, 11] (.seq (.ops [⟨some 12, .bin .lss (.t 11) (.t 10), none⟩])
 (.seq (.cond (.t 12) .skip (.exit 0))
 (.seq (.block 1 (.seq (.ops [⟨some 13, .ix 1 (.t 9) (.t 11), none⟩,
  ⟨some 14, .ld 1 false (.t 13), none⟩,
  ⟨some 7, .mv (.t 14), none⟩])
 (.seq (.ops [⟨some 15, .mv (.t 7), none⟩,
  ⟨some 16, .bin .geq (.t 15) (.k (.int .i64 0)), none⟩])
 (.cond (.t 16) (.ops [⟨some 17, .mv (.t 5), none⟩,
  ⟨some 18, .fa 1 1 false (.t 2), none⟩,
  ⟨some 19, .ldi 1 false (.t 18), none⟩,
  ⟨some 20, .mv (.t 7), none⟩,
  ⟨some 21, .ix 1 (.t 19) (.t 20), none⟩,
  ⟨some 22, .ld 1 false (.t 21), none⟩,
  ⟨some 23, .mkl (.str []) 1 [(0, (.t 22))], none⟩,
  ⟨some 24, .app 1 (.t 17) (.t 23), none⟩,
  ⟨some 5, .mv (.t 24), none⟩]) (.ops [⟨some 25, .mv (.t 5), none⟩,
  ⟨some 26, .fa 0 1 false (.t 2), none⟩,
  ⟨some 27, .ldi 1 false (.t 26), none⟩,
  ⟨some 28, .mv (.t 7), none⟩,
  ⟨some 29, .bin .sub (.k (.int .i64 (-1))) (.t 28), none⟩,
  ⟨some 30, .ix 8 (.t 27) (.t 29), none⟩,
  ⟨some 31, .fa 0 1 false (.t 30), none⟩,
  ⟨some 32, .ld 1 false (.t 31), none⟩,
  ⟨some 33, .mkl (.str []) 1 [(0, (.t 32))], none⟩,
  ⟨some 34, .app 1 (.t 25) (.t 33), none⟩,
  ⟨some 5, .mv (.t 34), none⟩])))))
 (.ops [⟨some 35, .bin .add (.t 11) (.k (.int .i64 1)), none⟩,
  ⟨some 11, .mv (.t 35), none⟩])))))))
 (.seq (.seq (.ops [⟨some 36, .fa 2 1 false (.t 3), none⟩,
  ⟨some 37, .ldi 1 false (.t 36), none⟩,
  ⟨some 38, .bin .geq (.t 37) (.k (.int .i64 0)), none⟩])
 (.cond (.t 38) (.ops [⟨some 39, .mv (.t 5), none⟩,
  ⟨some 40, .fa 2 1 false (.t 2), none⟩,
  ⟨some 41, .ldi 1 false (.t 40), none⟩,
  ⟨some 42, .fa 2 1 false (.t 3), none⟩,
  ⟨some 43, .ldi 1 false (.t 42), none⟩,
  ⟨some 44, .ix 2 (.t 41) (.t 43), none⟩,
  ⟨some 45, .fa 0 1 false (.t 44), none⟩,
  ⟨some 46, .ld 1 false (.t 45), none⟩,
  ⟨some 47, .mkl (.str []) 2 [(0, (.k (.str [58]))), (1, (.t 46))], none⟩,
  ⟨some 48, .app 1 (.t 39) (.t 47), none⟩,
  ⟨some 5, .mv (.t 48), none⟩]) .skip))
 (.seq (.ops [⟨some 49, .mv (.t 5), none⟩,
  ⟨some 50, .call 93 [(.t 49)], none⟩,
  ⟨some 4, .mv (.t 50), none⟩])
 .ret))))), [.tmp 4], true⟩
/-- eyot/gtext.sets -/
def a92 : AFn := ⟨1, (.seq (.ops [⟨some 2, .mv (.k (.str [])), none⟩])
 (.seq (.ops [⟨some 3, .mv (.k (.list true [])), none⟩])
 (.seq (.seq (.ops [⟨some 6, .mv (.t 0), none⟩,
  ⟨some 7, .len (.t 6), none⟩,
  ⟨some 8, .mv (.k (.int .i64 0)), none⟩])
 (.block 0 (.loop [3, 6, 7, 8] (.seq (.ops [⟨some 9, .bin .lss (.t 8) (.t 7), none⟩])
 (.seq (.cond (.t 9) .skip (.exit 0))
 (.seq (.block 1 (.seq (.ops [⟨some 10, .ix 4 (.t 6) (.t 8), none⟩,
  ⟨some 11, .ld 4 true (.t 10), none⟩,
  ⟨some 5, .alv ([.int .u64 0, .int .u64 0, .int .u64 0, .int .u64 0]), none⟩,
  ⟨none, .st 4 (.t 5) (.t 11), none⟩])
 (.ops [⟨some 12, .mv (.t 3), none⟩,
  ⟨some 13, .ldl 4 true 5, none⟩,
  ⟨some 14, .call 87 [(.t 13)], none⟩,
  ⟨some 15, .mkl (.str []) 1 [(0, (.t 14))], none⟩,
  ⟨some 16, .app 1 (.t 12) (.t 15), none⟩,
  ⟨some 3, .mv (.t 16), none⟩])))
 (.ops [⟨some 17, .bin .add (.t 8) (.k (.int .i64 1)), none⟩,
  ⟨some 8, .mv (.t 17), none⟩])))))))
 (.seq (.ops [⟨some 18, .mv (.t 3), none⟩,
  ⟨some 19, .call 93 [(.t 18)], none⟩,
  ⟨some 2, .mv (.t 19), none⟩])
 .ret)))), [.tmp 2], true⟩
/-- eyot/gtext.shown -/
def a93 : AFn := ⟨1, (.seq (.ops [⟨some 2, .mv (.k (.str [])), none⟩])
 (.seq (.ops [⟨some 3, .mv (.k (.str [])), none⟩])
 (.seq (.seq (.ops [⟨some 6, .mv (.t 0), none⟩,
  ⟨some 7, .len (.t 6), none⟩,
  ⟨some 8, .mv (.k (.int .i64 0)), none⟩])
 (.block 0 (.loop [3, 6, 7, 8] (.seq (.ops [⟨some 9, .bin .lss (.t 8) (.t 7), none⟩])
 (.seq (.cond (.t 9) .skip (.exit 0))
 (.seq (.block 1 (.seq (.ops [⟨some 10, .ix 1 (.t 6) (.t 8), none⟩,
  ⟨some 11, .ld 1 false (.t 10), none⟩,
  ⟨some 5, .mv (.t 11), none⟩])
 (.ops [⟨some 12, .mv (.t 3), none⟩,
  ⟨some 13, .mv (.t 5), none⟩,
  ⟨some 14, .bin .add (.k (.str [32])) (.t 13), none⟩,
  ⟨some 15, .bin .add (.t 12) (.t 14), none⟩,
  ⟨some 3, .mv (.t 15), none⟩])))
 (.ops [⟨some 16, .bin .add (.t 8) (.k (.int .i64 1)), none⟩,
  ⟨some 8, .mv (.t 16), none⟩])))))))
 (.seq (.ops [⟨some 17, .mv (.t 3), none⟩,
  ⟨some 2, .mv (.t 17), none⟩])
 .ret)))), [.tmp 2], true⟩
/-- eyot/eyotlaw14.GtextSpaces -/
def a94 : AFn := ⟨1, (.seq (.ops [⟨some 2, .mv (.k (.bool false)), none⟩])
 (.seq (.seq (.ops [⟨some 15, .call 88 [], none⟩,
  ⟨some 16, .un .not (.t 15), none⟩])
 (.cond (.t 16) (.seq (.ops [⟨some 2, .mv (.k (.bool false)), none⟩])
 .ret) .skip))
 (.seq (.ops [⟨some 3, .mv (.k (.str [116, 111, 107, 101, 110, 32, 97, 32, 61, 32, 97, 10, 115, 99, 111, 112, 101, 32, 104, 32, 61, 32, 49, 10, 114, 117, 108, 101, 32, 115, 32, 61, 32, 97, 32, 58, 32, 104, 10, 115, 121, 110, 99, 32, 97, 32, 124, 32, 98, 10, 109, 97, 120, 32, 53, 10])), none⟩])
 (.seq (.ops [⟨some 4, .mv (.k (.list true [])), none⟩,
  ⟨some 5, .mv (.k (.list true [])), none⟩])
 (.seq (.ops [⟨some 6, .mv (.k (.int .i64 1)), none⟩])
 (.seq (.seq (.ops [⟨some 7, .mv (.k (.int .i64 0)), none⟩])
 (.block 0 (.loop [0, 3, 4, 5, 6, 7, 28, 29, 30, 31, 80, 81, 84, 85, 86, 87, 88, 89] (.seq (.seq (.ops [⟨some 17, .mv (.t 7), none⟩,
  ⟨some 18, .mv (.t 3), none⟩,
  ⟨some 19, .lns (.t 18), none⟩,
  ⟨some 20, .bin .lss (.t 17) (.t 19), none⟩])
 (.cond (.t 20) .skip (.exit 0)))
 (.seq (.block 1 (.seq (.seq (.ops [⟨some 23, .mv (.t 3), none⟩,
  ⟨some 24, .mv (.t 7), none⟩,
  ⟨some 25, .ixs (.t 23) (.t 24), none⟩,
  ⟨some 26, .bin .eql (.t 25) (.k (.int .u8 32)), none⟩,
  ⟨some 27, .mv (.t 26), none⟩,
  ⟨some 28, .mv (.t 3), some (27, false)⟩,
  ⟨some 29, .mv (.t 7), some (27, false)⟩,
  ⟨some 30, .ixs (.t 28) (.t 29), some (27, false)⟩,
  ⟨some 31, .bin .eql (.t 30) (.k (.int .u8 10)), some (27, false)⟩,
  ⟨some 32, .pick (.t 27) (.k (.bool true)) (.t 31), none⟩])
 (.cond (.t 32) (.ops [⟨some 33, .mv (.t 4), none⟩,
  ⟨some 34, .mv (.t 7), none⟩,
  ⟨some 35, .mkl (.int .i64 0) 1 [(0, (.t 34))], none⟩,
  ⟨some 36, .app 1 (.t 33) (.t 35), none⟩,
  ⟨some 37, .mv (.t 5), none⟩,
  ⟨some 38, .mv (.t 6), none⟩,
  ⟨some 39, .mkl (.int .i64 0) 1 [(0, (.t 38))], none⟩,
  ⟨some 40, .app 1 (.t 37) (.t 39), none⟩,
  ⟨some 4, .mv (.t 36), none⟩,
  ⟨some 5, .mv (.t 40), none⟩]) .skip))
 (.seq (.ops [⟨some 41, .mv (.t 3), none⟩,
  ⟨some 42, .mv (.t 7), none⟩,
  ⟨some 43, .ixs (.t 41) (.t 42), none⟩,
  ⟨some 44, .bin .eql (.t 43) (.k (.int .u8 10)), none⟩])
 (.cond (.t 44) (.ops [⟨some 45, .mv (.t 6), none⟩,
  ⟨some 46, .bin .add (.t 45) (.k (.int .i64 1)), none⟩,
  ⟨some 6, .mv (.t 46), none⟩]) .skip))))
 (.ops [⟨some 21, .mv (.t 7), none⟩,
  ⟨some 22, .bin .add (.t 21) (.k (.int .i64 1)), none⟩,
  ⟨some 7, .mv (.t 22), none⟩]))))))
 (.seq (.ops [⟨some 47, .mv (.t 0), none⟩,
  ⟨some 48, .cvi .i64 (.t 47), none⟩,
  ⟨some 49, .mv (.t 4), none⟩,
  ⟨some 50, .len (.t 49), none⟩,
  ⟨some 51, .rmc 20 (.t 48) (.t 50), none⟩,
  ⟨some 8, .mv (.t 51), none⟩])
 (.seq (.ops [⟨some 53, .mv (.t 3), none⟩,
  ⟨some 54, .call 67 [(.t 53)], none⟩,
  ⟨some 52, .mv (.t 54), none⟩,
  ⟨some 55, .ext 0 (.t 52), none⟩,
  ⟨some 56, .ext 1 (.t 52), none⟩,
  ⟨some 57, .ext 2 (.t 52), none⟩,
  ⟨some 9, .alv (List.replicate 6 (.list true []) ++ [.int .i64 0]), none⟩,
  ⟨none, .st 7 (.t 9) (.t 55), none⟩,
  ⟨some 10, .mv (.t 56), none⟩,
  ⟨some 11, .mv (.t 57), none⟩])
 (.seq (.dops [⟨some 59, .mv (.t 3), none⟩,
  ⟨some 60, .mv (.t 4), none⟩,
  ⟨some 61, .mv (.t 8), none⟩,
  ⟨some 62, .ix 1 (.t 60) (.t 61), none⟩,
  ⟨some 63, .ld 1 false (.t 62), none⟩,
  ⟨some 64, .ss (.t 59) none (some (.t 63)), none⟩,
  ⟨some 65, .bin .add (.t 64) (.k (.str [32])), none⟩,
  ⟨some 66, .mv (.t 3), none⟩,
  ⟨some 67, .mv (.t 4), none⟩,
  ⟨some 68, .mv (.t 8), none⟩,
  ⟨some 69, .ix 1 (.t 67) (.t 68), none⟩,
  ⟨some 70, .ld 1 false (.t 69), none⟩,
  ⟨some 71, .ss (.t 66) (some (.t 70)) none, none⟩,
  ⟨some 72, .bin .add (.t 65) (.t 71), none⟩,
  ⟨some 73, .call 67 [(.t 72)], none⟩,
  ⟨some 58, .mv (.t 73), none⟩,
  ⟨some 74, .ext 0 (.t 58), none⟩,
  ⟨some 75, .ext 1 (.t 58), none⟩,
  ⟨some 76, .ext 2 (.t 58), none⟩,
  ⟨some 12, .alv (List.replicate 6 (.list true []) ++ [.int .i64 0]), none⟩,
  ⟨none, .st 7 (.t 12) (.t 74), none⟩,
  ⟨some 13, .mv (.t 75), none⟩,
  ⟨some 14, .mv (.t 76), none⟩])
 (.seq (.ops [⟨some 77, .mv (.t 11), none⟩,
  ⟨some 78, .bin .eql (.t 77) (.k (.int .i64 0)), none⟩,
  ⟨some 79, .mv (.t 78), none⟩,
  ⟨some 80, .mv (.t 14), some (79, true)⟩,
  ⟨some 81, .bin .eql (.t 80) (.k (.int .i64 5)), some (79, true)⟩,
  ⟨some 82, .pick (.t 79) (.t 81) (.k (.bool false)), none⟩,
  ⟨some 83, .mv (.t 82), none⟩,
  ⟨some 84, .mv (.t 13), some (83, true)⟩,
  ⟨some 85, .mv (.t 5), some (83, true)⟩,
  ⟨some 86, .mv (.t 8), some (83, true)⟩,
  ⟨some 87, .ix 1 (.t 85) (.t 86), some (83, true)⟩,
  ⟨some 88, .ld 1 false (.t 87), some (83, true)⟩,
  ⟨some 89, .bin .eql (.t 84) (.t 88), some (83, true)⟩,
  ⟨some 90, .pick (.t 83) (.t 89) (.k (.bool false)), none⟩,
  ⟨some 2, .mv (.t 90), none⟩])
 .ret)))))))))), [.tmp 2], true⟩
end Ey.Gs
