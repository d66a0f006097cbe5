/- Functions of the program, as code of the small language. Printed by seat.py. -/
import Derived.Test.YtmcgbmkagbchnaaEyRow
namespace Ey.Dn
set_option maxRecDepth 100000
/-- eyot/class.Has -/
def a0 : AFn := ⟨2, (.seq (.ops [⟨some 2, .bim 4 (.t 0), none⟩,
  ⟨some 4, .mv (.k (.bool false)), none⟩])
 (.seq (.ops [⟨some 5, .mv (.t 1), none⟩,
  ⟨some 6, .bin .quo (.t 5) (.k (.int .u8 64)), none⟩,
  ⟨some 7, .ia 4 1 false (.t 2) (.t 6), none⟩,
  ⟨some 8, .ldi 1 false (.t 7), none⟩,
  ⟨some 9, .mv (.t 1), none⟩,
  ⟨some 10, .bin .rem (.t 9) (.k (.int .u8 64)), none⟩,
  ⟨some 11, .bin .shr (.t 8) (.t 10), none⟩,
  ⟨some 12, .bin .and (.t 11) (.k (.int .u64 1)), none⟩,
  ⟨some 13, .bin .eql (.t 12) (.k (.int .u64 1)), none⟩,
  ⟨some 4, .mv (.t 13), none⟩])
 .ret)), [.tmp 4], true⟩
/-- (*eyot/dfa.maker).alike -/
def a1 : AFn := ⟨3, (.seq (.ops [⟨some 6, .mv (.k (.bool false)), none⟩])
 (.seq (.seq (.ops [⟨some 11, .mv (.t 0), none⟩,
  ⟨some 12, .nilc (.t 11), none⟩,
  ⟨some 13, .fa 0 1 false (.t 12), none⟩,
  ⟨some 14, .ld 1 false (.t 13), none⟩,
  ⟨some 15, .len (.t 14), none⟩,
  ⟨some 16, .mv (.k (.int .i64 0)), none⟩])
 (.block 0 (.loop [1, 2, 14, 15, 16] (.seq (.ops [⟨some 17, .bin .lss (.t 16) (.t 15), none⟩])
 (.seq (.cond (.t 17) .skip (.exit 0))
 (.seq (.block 1 (.seq (.ops [⟨some 18, .ix 5 (.t 14) (.t 16), none⟩,
  ⟨some 19, .ld 5 true (.t 18), none⟩,
  ⟨some 8, .alv ([.list true [], .list true [], .list true [], .list true [], .bool false]), none⟩,
  ⟨none, .st 5 (.t 8) (.t 19), none⟩])
 (.seq (.ops [⟨some 20, .fa 0 1 false (.t 8), none⟩,
  ⟨some 21, .ldp 1 false (.t 20), none⟩,
  ⟨some 22, .len (.t 21), none⟩,
  ⟨some 23, .mv (.k (.int .i64 0)), none⟩])
 (.block 2 (.loop [1, 2, 14, 15, 16, 21, 22, 23] (.seq (.ops [⟨some 24, .bin .lss (.t 23) (.t 22), none⟩])
 (.seq (.cond (.t 24) .skip (.exit 2))
 (.seq (.block 3 (.seq (.ops [⟨some 25, .ix 4 (.t 21) (.t 23), none⟩,
  ⟨some 26, .ld 4 true (.t 25), none⟩,
  ⟨some 10, .alv ([.int .u64 0, .int .u64 0, .int .u64 0, .int .u64 0]), none⟩,
  ⟨none, .st 4 (.t 10) (.t 26), none⟩])
 (.seq (.dops [⟨some 27, .ldl 4 true 10, none⟩,
  ⟨some 28, .mv (.t 1), none⟩,
  ⟨some 29, .call 0 [(.t 27), (.t 28)], none⟩,
  ⟨some 30, .ldl 4 true 10, none⟩,
  ⟨some 31, .mv (.t 2), none⟩,
  ⟨some 32, .call 0 [(.t 30), (.t 31)], none⟩,
  ⟨some 33, .eq true .bool (.t 29) (.t 32), none⟩])
 (.cond (.t 33) (.seq (.ops [⟨some 6, .mv (.k (.bool false)), none⟩])
 .ret) .skip))))
 (.ops [⟨some 34, .bin .add (.t 23) (.k (.int .i64 1)), none⟩,
  ⟨some 23, .mv (.t 34), none⟩])))))))))
 (.ops [⟨some 35, .bin .add (.t 16) (.k (.int .i64 1)), none⟩,
  ⟨some 16, .mv (.t 35), none⟩])))))))
 (.seq (.ops [⟨some 6, .mv (.k (.bool true)), none⟩])
 .ret))), [.tmp 6], true⟩
/-- (*eyot/dfa.maker).first -/
def a2 : AFn := ⟨1, (.seq (.ops [⟨some 2, .mv (.k (.list true [])), none⟩])
 (.seq (.ops [⟨some 3, .mv (.k (.list true [])), none⟩])
 (.seq (.seq (.ops [⟨some 8, .mv (.t 0), none⟩,
  ⟨some 9, .nilc (.t 8), none⟩,
  ⟨some 10, .fa 0 1 false (.t 9), none⟩,
  ⟨some 11, .ld 1 false (.t 10), none⟩,
  ⟨some 12, .len (.t 11), none⟩,
  ⟨some 13, .mv (.k (.int .i64 0)), none⟩])
 (.block 0 (.loop [3, 11, 12, 13] (.seq (.ops [⟨some 14, .bin .lss (.t 13) (.t 12), none⟩])
 (.seq (.cond (.t 14) .skip (.exit 0))
 (.seq (.block 1 (.seq (.ops [⟨some 15, .mv (.t 13), none⟩,
  ⟨some 16, .ix 5 (.t 11) (.t 13), none⟩,
  ⟨some 17, .ld 5 true (.t 16), none⟩,
  ⟨some 5, .alv ([.list true [], .list true [], .list true [], .list true [], .bool false]), none⟩,
  ⟨some 4, .mv (.t 15), none⟩,
  ⟨none, .st 5 (.t 5) (.t 17), none⟩])
 (.seq (.ops [⟨some 18, .fa 1 1 false (.t 5), none⟩,
  ⟨some 19, .ldp 1 false (.t 18), none⟩,
  ⟨some 20, .len (.t 19), none⟩,
  ⟨some 21, .mv (.k (.int .i64 0)), none⟩])
 (.block 2 (.loop [3, 4, 11, 12, 13, 19, 20, 21] (.seq (.ops [⟨some 22, .bin .lss (.t 21) (.t 20), none⟩])
 (.seq (.cond (.t 22) .skip (.exit 2))
 (.seq (.block 3 (.seq (.ops [⟨some 23, .ix 1 (.t 19) (.t 21), none⟩,
  ⟨some 24, .ld 1 false (.t 23), none⟩,
  ⟨some 7, .mv (.t 24), none⟩])
 (.ops [⟨some 25, .mv (.t 3), none⟩,
  ⟨some 26, .mv (.t 4), none⟩,
  ⟨some 27, .mv (.t 7), none⟩,
  ⟨some 28, .bld (.agg ([.int .i64 0, .int .i64 0])) [((0, 1), (.t 26)), ((1, 1), (.t 27))], none⟩,
  ⟨some 29, .mkl (.agg ([.int .i64 0, .int .i64 0])) 1 [(0, (.t 28))], none⟩,
  ⟨some 30, .app 2 (.t 25) (.t 29), none⟩,
  ⟨some 3, .mv (.t 30), none⟩])))
 (.ops [⟨some 31, .bin .add (.t 21) (.k (.int .i64 1)), none⟩,
  ⟨some 21, .mv (.t 31), none⟩])))))))))
 (.ops [⟨some 32, .bin .add (.t 13) (.k (.int .i64 1)), none⟩,
  ⟨some 13, .mv (.t 32), none⟩])))))))
 (.seq (.ops [⟨some 33, .mv (.t 3), none⟩,
  ⟨some 2, .mv (.t 33), none⟩])
 (.seq (.ops [⟨none, .frz (.sl .no) 2, none⟩]) .ret))))), [.tmp 2], true⟩
/-- slices.SortFunc[[]eyot/dfa.spot,eyot/dfa.spot] -/
def a3 : AFn := ⟨2, (.seq (.ops [⟨some 5, .mv (.t 0), none⟩,
  ⟨some 6, .len (.t 5), none⟩,
  ⟨some 4, .mv (.t 6), none⟩])
 (.ops [⟨some 7, .mv (.t 0), none⟩,
  ⟨some 8, .mv (.t 4), none⟩,
  ⟨some 9, .mv (.t 4), none⟩,
  ⟨some 10, .cvi .u64 (.t 9), none⟩,
  ⟨some 11, .call 38 [(.t 10)], none⟩,
  ⟨some 12, .mv (.t 1), none⟩,
  ⟨some 13, .call 43 [(.t 7), (.k (.int .i64 0)), (.t 8), (.t 11), (.t 12)], none⟩])), [], false⟩
/-- slices.Compact[[]eyot/dfa.spot,eyot/dfa.spot] -/
def a4 : AFn := ⟨1, (.seq (.ops [⟨some 2, .mv (.k (.list true [])), none⟩])
 (.seq (.seq (.ops [⟨some 6, .mv (.t 0), none⟩,
  ⟨some 7, .len (.t 6), none⟩,
  ⟨some 8, .bin .lss (.t 7) (.k (.int .i64 2)), none⟩])
 (.cond (.t 8) (.seq (.ops [⟨some 9, .mv (.t 0), none⟩,
  ⟨some 2, .mv (.t 9), none⟩])
 .ret) .skip))
 (.seq (.seq (.ops [⟨some 3, .mv (.k (.int .i64 1)), none⟩])
 (.block 0 (.loop [0, 3] (.seq (.seq (.ops [⟨some 10, .mv (.t 3), none⟩,
  ⟨some 11, .mv (.t 0), none⟩,
  ⟨some 12, .len (.t 11), none⟩,
  ⟨some 13, .bin .lss (.t 10) (.t 12), none⟩])
 (.cond (.t 13) .skip (.exit 0)))
 (.seq (.block 1 (.seq (.dops [⟨some 16, .mv (.t 0), none⟩,
  ⟨some 17, .mv (.t 3), none⟩,
  ⟨some 18, .ix 2 (.t 16) (.t 17), none⟩,
  ⟨some 19, .ld 2 true (.t 18), none⟩,
  ⟨some 20, .mv (.t 0), none⟩,
  ⟨some 21, .mv (.t 3), none⟩,
  ⟨some 22, .bin .sub (.t 21) (.k (.int .i64 1)), none⟩,
  ⟨some 23, .ix 2 (.t 20) (.t 22), none⟩,
  ⟨some 24, .ld 2 true (.t 23), none⟩,
  ⟨some 25, .eq false (.agg [.i, .i]) (.t 19) (.t 24), none⟩])
 (.cond (.t 25) (.seq (.ops [⟨some 26, .mv (.t 0), none⟩,
  ⟨some 27, .mv (.t 3), none⟩,
  ⟨some 28, .sl 2 (.t 26) (some (.t 27)) none none, none⟩,
  ⟨some 4, .mv (.t 28), none⟩])
 (.seq (.seq (.ops [⟨some 5, .mv (.k (.int .i64 1)), none⟩])
 (.block 2 (.loop [0, 3, 4, 5] (.seq (.seq (.ops [⟨some 29, .mv (.t 5), none⟩,
  ⟨some 30, .mv (.t 4), none⟩,
  ⟨some 31, .len (.t 30), none⟩,
  ⟨some 32, .bin .lss (.t 29) (.t 31), none⟩])
 (.cond (.t 32) .skip (.exit 2)))
 (.seq (.block 3 (.seq (.dops [⟨some 35, .mv (.t 4), none⟩,
  ⟨some 36, .mv (.t 5), none⟩,
  ⟨some 37, .ix 2 (.t 35) (.t 36), none⟩,
  ⟨some 38, .ld 2 true (.t 37), none⟩,
  ⟨some 39, .mv (.t 4), none⟩,
  ⟨some 40, .mv (.t 5), none⟩,
  ⟨some 41, .bin .sub (.t 40) (.k (.int .i64 1)), none⟩,
  ⟨some 42, .ix 2 (.t 39) (.t 41), none⟩,
  ⟨some 43, .ld 2 true (.t 42), none⟩,
  ⟨some 44, .eq true (.agg [.i, .i]) (.t 38) (.t 43), none⟩])
 (.cond (.t 44) (.seq (.ops [⟨some 45, .mv (.t 0), none⟩,
  ⟨some 46, .mv (.t 3), none⟩,
  ⟨some 47, .mv (.t 4), none⟩,
  ⟨some 48, .mv (.t 5), none⟩,
  ⟨some 49, .ix 2 (.t 47) (.t 48), none⟩,
  ⟨some 50, .ld 2 true (.t 49), none⟩,
  ⟨some 51, .ix 2 (.t 45) (.t 46), none⟩,
  ⟨none, .st 2 (.t 51) (.t 50), none⟩])
 (.ops [⟨some 52, .mv (.t 3), none⟩,
  ⟨some 53, .bin .add (.t 52) (.k (.int .i64 1)), none⟩,
  ⟨some 3, .mv (.t 53), none⟩])) .skip)))
 (.ops [⟨some 33, .mv (.t 5), none⟩,
  ⟨some 34, .bin .add (.t 33) (.k (.int .i64 1)), none⟩,
  ⟨some 5, .mv (.t 34), none⟩]))))))
 (.seq (.ops [⟨some 54, .mv (.t 0), none⟩,
  ⟨some 55, .mv (.t 3), none⟩,
  ⟨some 56, .sl 2 (.t 54) (some (.t 55)) none none, none⟩,
  ⟨none, .clr 2 (.agg ([.int .i64 0, .int .i64 0])) (.t 56), none⟩])
 (.seq (.ops [⟨some 57, .mv (.t 0), none⟩,
  ⟨some 58, .mv (.t 3), none⟩,
  ⟨some 59, .sl 2 (.t 57) none (some (.t 58)) none, none⟩,
  ⟨some 2, .mv (.t 59), none⟩])
 .ret)))) .skip)))
 (.ops [⟨some 14, .mv (.t 3), none⟩,
  ⟨some 15, .bin .add (.t 14) (.k (.int .i64 1)), none⟩,
  ⟨some 3, .mv (.t 15), none⟩]))))))
 (.seq (.ops [⟨some 60, .mv (.t 0), none⟩,
  ⟨some 2, .mv (.t 60), none⟩])
 .ret)))), [.tmp 2], false⟩
/-- (*eyot/dfa.maker).behind -/
def a5 : AFn := ⟨2, (.seq (.ops [⟨some 4, .mv (.k (.list true [])), none⟩])
 (.seq (.ops [⟨some 5, .mv (.k (.list true [])), none⟩])
 (.seq (.seq (.ops [⟨some 10, .mv (.t 1), none⟩,
  ⟨some 11, .len (.t 10), none⟩,
  ⟨some 12, .mv (.k (.int .i64 0)), none⟩])
 (.block 0 (.loop [0, 5, 10, 11, 12] (.seq (.ops [⟨some 13, .bin .lss (.t 12) (.t 11), none⟩])
 (.seq (.cond (.t 13) .skip (.exit 0))
 (.seq (.block 1 (.seq (.ops [⟨some 14, .ix 2 (.t 10) (.t 12), none⟩,
  ⟨some 15, .ld 2 true (.t 14), none⟩,
  ⟨some 7, .alv ([.int .i64 0, .int .i64 0]), none⟩,
  ⟨none, .st 2 (.t 7) (.t 15), none⟩])
 (.seq (.dops [⟨some 16, .mv (.t 0), none⟩,
  ⟨some 17, .nilc (.t 16), none⟩,
  ⟨some 18, .fa 0 1 false (.t 17), none⟩,
  ⟨some 19, .ldo 1 false (.t 18), none⟩,
  ⟨some 20, .fa 0 1 false (.t 7), none⟩,
  ⟨some 21, .ldp 1 false (.t 20), none⟩,
  ⟨some 22, .ix 5 (.t 19) (.t 21), none⟩,
  ⟨some 23, .fa 3 1 false (.t 22), none⟩,
  ⟨some 24, .ld 1 false (.t 23), none⟩,
  ⟨some 25, .fa 1 1 false (.t 7), none⟩,
  ⟨some 26, .ldp 1 false (.t 25), none⟩,
  ⟨some 27, .ix 1 (.t 24) (.t 26), none⟩,
  ⟨some 28, .ld 1 false (.t 27), none⟩,
  ⟨some 29, .len (.t 28), none⟩,
  ⟨some 30, .mv (.k (.int .i64 0)), none⟩])
 (.block 2 (.loop [0, 5, 7, 10, 11, 12, 28, 29, 30] (.seq (.ops [⟨some 31, .bin .lss (.t 30) (.t 29), none⟩])
 (.seq (.cond (.t 31) .skip (.exit 2))
 (.seq (.block 3 (.seq (.ops [⟨some 32, .ix 1 (.t 28) (.t 30), none⟩,
  ⟨some 33, .ld 1 false (.t 32), none⟩,
  ⟨some 9, .mv (.t 33), none⟩])
 (.ops [⟨some 34, .mv (.t 5), none⟩,
  ⟨some 35, .fa 0 1 false (.t 7), none⟩,
  ⟨some 36, .ldp 1 false (.t 35), none⟩,
  ⟨some 37, .mv (.t 9), none⟩,
  ⟨some 38, .bld (.agg ([.int .i64 0, .int .i64 0])) [((0, 1), (.t 36)), ((1, 1), (.t 37))], none⟩,
  ⟨some 39, .mkl (.agg ([.int .i64 0, .int .i64 0])) 1 [(0, (.t 38))], none⟩,
  ⟨some 40, .app 2 (.t 34) (.t 39), none⟩,
  ⟨some 5, .mv (.t 40), none⟩])))
 (.ops [⟨some 41, .bin .add (.t 30) (.k (.int .i64 1)), none⟩,
  ⟨some 30, .mv (.t 41), none⟩])))))))))
 (.ops [⟨some 42, .bin .add (.t 12) (.k (.int .i64 1)), none⟩,
  ⟨some 12, .mv (.t 42), none⟩])))))))
 (.seq (.ops [⟨some 43, .mv (.t 5), none⟩,
  ⟨some 44, .call 3 [(.t 43), (.k (.fn 46 []))], none⟩])
 (.seq (.ops [⟨some 45, .mv (.t 5), none⟩,
  ⟨some 46, .call 4 [(.t 45)], none⟩,
  ⟨some 4, .mv (.t 46), none⟩])
 (.seq (.ops [⟨none, .frz (.sl .no) 4, none⟩]) .ret)))))), [.tmp 4], true⟩
/-- (*eyot/dfa.maker).classes$1 -/
def a6 : AFn := ⟨3, (.seq (.ops [⟨some 4, .mv (.k (.bool false)), none⟩])
 (.seq (.ops [⟨some 5, .ld 1 false (.t 1), none⟩,
  ⟨some 6, .mv (.t 0), none⟩,
  ⟨some 7, .ld 1 false (.t 2), none⟩,
  ⟨some 8, .cvi .u8 (.t 7), none⟩,
  ⟨some 9, .call 1 [(.t 5), (.t 6), (.t 8)], none⟩,
  ⟨some 4, .mv (.t 9), none⟩])
 .ret)), [.tmp 4], true⟩
/-- slices.IndexFunc[[]byte,byte] -/
def a7 : AFn := ⟨2, (.seq (.ops [⟨some 4, .mv (.k (.int .i64 0)), none⟩])
 (.seq (.seq (.ops [⟨some 6, .mv (.t 0), none⟩,
  ⟨some 7, .len (.t 6), none⟩,
  ⟨some 8, .mv (.k (.int .i64 0)), none⟩])
 (.block 0 (.loop [0, 1, 7, 8] (.seq (.ops [⟨some 9, .bin .lss (.t 8) (.t 7), none⟩])
 (.seq (.cond (.t 9) .skip (.exit 0))
 (.seq (.block 1 (.seq (.ops [⟨some 10, .mv (.t 8), none⟩,
  ⟨some 5, .mv (.t 10), none⟩])
 (.seq (.ops [⟨some 11, .mv (.t 1), none⟩,
  ⟨some 12, .mv (.t 0), none⟩,
  ⟨some 13, .mv (.t 5), none⟩,
  ⟨some 14, .ix 1 (.t 12) (.t 13), none⟩,
  ⟨some 15, .ld 1 false (.t 14), none⟩,
  ⟨some 16, .callv (.t 11) [(.t 15)], none⟩])
 (.cond (.t 16) (.seq (.ops [⟨some 17, .mv (.t 5), none⟩,
  ⟨some 4, .mv (.t 17), none⟩])
 .ret) .skip))))
 (.ops [⟨some 18, .bin .add (.t 8) (.k (.int .i64 1)), none⟩,
  ⟨some 8, .mv (.t 18), none⟩])))))))
 (.seq (.ops [⟨some 4, .mv (.k (.int .i64 (-1))), none⟩])
 .ret))), [.tmp 4], true⟩
/-- (*eyot/dfa.maker).classes -/
def a8 : AFn := ⟨1, (.seq (.ops [⟨some 1, .bob 1 (.t 0), none⟩])
 (.seq (.ops [⟨some 4, .mv (.k (.int .i64 0)), none⟩])
 (.block 0 (.loop [1, 4] (.seq (.ops [⟨some 5, .bin .lss (.t 4) (.k (.int .i64 256)), none⟩])
 (.seq (.cond (.t 5) .skip (.exit 0))
 (.seq (.block 1 (.seq (.ops [⟨some 6, .mv (.t 4), none⟩,
  ⟨some 2, .aob ([.int .i64 0]), none⟩,
  ⟨none, .st 1 (.t 2) (.t 6), none⟩])
 (.seq (.ops [⟨some 7, .ldo 1 false (.t 1), none⟩,
  ⟨some 8, .nilc (.t 7), none⟩,
  ⟨some 9, .fa 259 1 false (.t 8), none⟩,
  ⟨some 10, .ld 1 false (.t 9), none⟩,
  ⟨some 11, .mkfn 6 [(.t 1), (.t 2)], none⟩,
  ⟨some 12, .call 7 [(.t 10), (.t 11)], none⟩,
  ⟨some 3, .mv (.t 12), none⟩])
 (.seq (.seq (.ops [⟨some 13, .mv (.t 3), none⟩,
  ⟨some 14, .bin .lss (.t 13) (.k (.int .i64 0)), none⟩])
 (.cond (.t 14) (.seq (.ops [⟨some 15, .ldo 1 false (.t 1), none⟩,
  ⟨some 16, .nilc (.t 15), none⟩,
  ⟨some 17, .fa 259 1 false (.t 16), none⟩,
  ⟨some 18, .ld 1 false (.t 17), none⟩,
  ⟨some 19, .len (.t 18), none⟩,
  ⟨some 3, .mv (.t 19), none⟩])
 (.dops [⟨some 20, .ldo 1 false (.t 1), none⟩,
  ⟨some 21, .ldo 1 false (.t 1), none⟩,
  ⟨some 22, .nilc (.t 21), none⟩,
  ⟨some 23, .fa 259 1 false (.t 22), none⟩,
  ⟨some 24, .ld 1 false (.t 23), none⟩,
  ⟨some 25, .ldo 1 false (.t 2), none⟩,
  ⟨some 26, .cvi .u8 (.t 25), none⟩,
  ⟨some 27, .mkl (.int .u8 0) 1 [(0, (.t 26))], none⟩,
  ⟨some 28, .app 1 (.t 24) (.t 27), none⟩,
  ⟨some 29, .nilc (.t 20), none⟩,
  ⟨some 30, .fa 259 1 false (.t 29), none⟩,
  ⟨none, .st 1 (.t 30) (.t 28), none⟩])) .skip))
 (.dops [⟨some 31, .ldo 1 false (.t 1), none⟩,
  ⟨some 32, .ldo 1 false (.t 2), none⟩,
  ⟨some 33, .mv (.t 3), none⟩,
  ⟨some 34, .cvi .u8 (.t 33), none⟩,
  ⟨some 35, .nilc (.t 31), none⟩,
  ⟨some 36, .fa 1 258 true (.t 35), none⟩,
  ⟨some 37, .fa 0 256 true (.t 36), none⟩,
  ⟨some 38, .ia 256 1 false (.t 37) (.t 32), none⟩,
  ⟨none, .st 1 (.t 38) (.t 34), none⟩])))))
 (.ops [⟨some 39, .bin .add (.t 4) (.k (.int .i64 1)), none⟩,
  ⟨some 4, .mv (.t 39), none⟩])))))))), [], false⟩
/-- slices.Contains[[]int,int] -/
def a9 : AFn := ⟨2, (.seq (.ops [⟨some 4, .mv (.k (.bool false)), none⟩])
 (.seq (.ops [⟨some 5, .mv (.t 0), none⟩,
  ⟨some 6, .mv (.t 1), none⟩,
  ⟨some 7, .call 39 [(.t 5), (.t 6)], none⟩,
  ⟨some 8, .bin .geq (.t 7) (.k (.int .i64 0)), none⟩,
  ⟨some 4, .mv (.t 8), none⟩])
 .ret)), [.tmp 4], true⟩
/-- (*eyot/dfa.maker).ends -/
def a10 : AFn := ⟨2, (.seq (.ops [⟨some 4, .mv (.k (.int .i64 0)), none⟩])
 (.seq (.seq (.ops [⟨some 7, .mv (.t 1), none⟩,
  ⟨some 8, .len (.t 7), none⟩,
  ⟨some 9, .mv (.k (.int .i64 0)), none⟩])
 (.block 0 (.loop [0, 7, 8, 9] (.seq (.ops [⟨some 10, .bin .lss (.t 9) (.t 8), none⟩])
 (.seq (.cond (.t 10) .skip (.exit 0))
 (.seq (.block 1 (.seq (.ops [⟨some 11, .ix 2 (.t 7) (.t 9), none⟩,
  ⟨some 12, .ld 2 true (.t 11), none⟩,
  ⟨some 6, .alv ([.int .i64 0, .int .i64 0]), none⟩,
  ⟨none, .st 2 (.t 6) (.t 12), none⟩])
 (.seq (.dops [⟨some 13, .mv (.t 0), none⟩,
  ⟨some 14, .nilc (.t 13), none⟩,
  ⟨some 15, .fa 0 1 false (.t 14), none⟩,
  ⟨some 16, .ldo 1 false (.t 15), none⟩,
  ⟨some 17, .fa 0 1 false (.t 6), none⟩,
  ⟨some 18, .ldp 1 false (.t 17), none⟩,
  ⟨some 19, .ix 5 (.t 16) (.t 18), none⟩,
  ⟨some 20, .fa 2 1 false (.t 19), none⟩,
  ⟨some 21, .ld 1 false (.t 20), none⟩,
  ⟨some 22, .fa 1 1 false (.t 6), none⟩,
  ⟨some 23, .ldp 1 false (.t 22), none⟩,
  ⟨some 24, .call 9 [(.t 21), (.t 23)], none⟩])
 (.cond (.t 24) (.seq (.ops [⟨some 25, .fa 0 1 false (.t 6), none⟩,
  ⟨some 26, .ldp 1 false (.t 25), none⟩,
  ⟨some 4, .mv (.t 26), none⟩])
 .ret) .skip))))
 (.ops [⟨some 27, .bin .add (.t 9) (.k (.int .i64 1)), none⟩,
  ⟨some 9, .mv (.t 27), none⟩])))))))
 (.seq (.ops [⟨some 4, .mv (.k (.int .i64 (-1))), none⟩])
 .ret))), [.tmp 4], true⟩
/-- (*eyot/dfa.maker).to -/
def a11 : AFn := ⟨2, (.seq (.ops [⟨some 3, .bob 1 (.t 1), none⟩,
  ⟨some 4, .mv (.k (.int .i64 0)), none⟩])
 (.seq (.seq (.ops [⟨some 6, .ldo 1 false (.t 3), none⟩,
  ⟨some 7, .len (.t 6), none⟩,
  ⟨some 8, .bin .eql (.t 7) (.k (.int .i64 0)), none⟩])
 (.cond (.t 8) (.seq (.ops [⟨some 4, .mv (.k (.int .i64 (-1))), none⟩])
 .ret) .skip))
 (.seq (.ops [⟨some 9, .mv (.t 0), none⟩,
  ⟨some 10, .nilc (.t 9), none⟩,
  ⟨some 11, .fa 260 1 false (.t 10), none⟩,
  ⟨some 12, .ld 1 false (.t 11), none⟩,
  ⟨some 13, .mkfn 47 [(.t 3)], none⟩,
  ⟨some 14, .call 13 [(.t 12), (.t 13)], none⟩,
  ⟨some 5, .mv (.t 14), none⟩])
 (.seq (.seq (.ops [⟨some 15, .mv (.t 5), none⟩,
  ⟨some 16, .bin .lss (.t 15) (.k (.int .i64 0)), none⟩])
 (.cond (.t 16) (.seq (.ops [⟨some 17, .mv (.t 0), none⟩,
  ⟨some 18, .nilc (.t 17), none⟩,
  ⟨some 19, .fa 260 1 false (.t 18), none⟩,
  ⟨some 20, .ld 1 false (.t 19), none⟩,
  ⟨some 21, .len (.t 20), none⟩,
  ⟨some 5, .mv (.t 21), none⟩])
 (.seq (.dops [⟨some 22, .mv (.t 0), none⟩,
  ⟨some 23, .mv (.t 0), none⟩,
  ⟨some 24, .nilc (.t 23), none⟩,
  ⟨some 25, .fa 260 1 false (.t 24), none⟩,
  ⟨some 26, .ldo 1 false (.t 25), none⟩,
  ⟨some 27, .ldo 1 false (.t 3), none⟩,
  ⟨some 28, .mkl (.list true []) 1 [(0, (.t 27))], none⟩,
  ⟨some 29, .app 1 (.t 26) (.t 28), none⟩,
  ⟨some 30, .nilc (.t 22), none⟩,
  ⟨some 31, .fa 260 1 false (.t 30), none⟩,
  ⟨none, .sto 1 (.t 31) (.t 29), none⟩])
 (.dops [⟨some 32, .mv (.t 0), none⟩,
  ⟨some 33, .mv (.t 0), none⟩,
  ⟨some 34, .nilc (.t 33), none⟩,
  ⟨some 35, .fa 1 258 true (.t 34), none⟩,
  ⟨some 36, .fa 257 1 false (.t 35), none⟩,
  ⟨some 37, .ldo 1 false (.t 36), none⟩,
  ⟨some 38, .mv (.t 0), none⟩,
  ⟨some 39, .ldo 1 false (.t 3), none⟩,
  ⟨some 40, .call 10 [(.t 38), (.t 39)], none⟩,
  ⟨some 41, .mkl (.int .i64 0) 1 [(0, (.t 40))], none⟩,
  ⟨some 42, .app 1 (.t 37) (.t 41), none⟩,
  ⟨some 43, .nilc (.t 32), none⟩,
  ⟨some 44, .fa 1 258 true (.t 43), none⟩,
  ⟨some 45, .fa 257 1 false (.t 44), none⟩,
  ⟨none, .sto 1 (.t 45) (.t 42), none⟩]))) .skip))
 (.seq (.ops [⟨some 46, .mv (.t 5), none⟩,
  ⟨some 47, .bin .add (.t 46) (.k (.int .i64 1)), none⟩,
  ⟨some 4, .mv (.t 47), none⟩])
 .ret))))), [.tmp 4], false⟩
/-- (*eyot/dfa.maker).row -/
def a12 : AFn := ⟨2, (.seq (.ops [⟨some 4, .mv (.k (.list true [])), none⟩])
 (.seq (.ops [⟨some 5, .mv (.k (.list true [])), none⟩])
 (.seq (.seq (.ops [⟨some 11, .mv (.t 0), none⟩,
  ⟨some 12, .nilc (.t 11), none⟩,
  ⟨some 13, .fa 259 1 false (.t 12), none⟩,
  ⟨some 14, .ld 1 false (.t 13), none⟩,
  ⟨some 15, .len (.t 14), none⟩,
  ⟨some 16, .mv (.k (.int .i64 0)), none⟩])
 (.block 0 (.loop [0, 1, 5, 14, 15, 16] (.seq (.ops [⟨some 17, .bin .lss (.t 16) (.t 15), none⟩])
 (.seq (.cond (.t 17) .skip (.exit 0))
 (.seq (.block 1 (.seq (.ops [⟨some 18, .ix 1 (.t 14) (.t 16), none⟩,
  ⟨some 19, .ld 1 false (.t 18), none⟩,
  ⟨some 7, .mv (.t 19), none⟩])
 (.seq (.ops [⟨some 8, .mv (.k (.list true [])), none⟩])
 (.seq (.seq (.ops [⟨some 20, .mv (.t 1), none⟩,
  ⟨some 21, .len (.t 20), none⟩,
  ⟨some 22, .mv (.k (.int .i64 0)), none⟩])
 (.block 2 (.loop [0, 1, 5, 7, 8, 14, 15, 16, 20, 21, 22] (.seq (.ops [⟨some 23, .bin .lss (.t 22) (.t 21), none⟩])
 (.seq (.cond (.t 23) .skip (.exit 2))
 (.seq (.block 3 (.seq (.ops [⟨some 24, .ix 2 (.t 20) (.t 22), none⟩,
  ⟨some 25, .ld 2 true (.t 24), none⟩,
  ⟨some 10, .alv ([.int .i64 0, .int .i64 0]), none⟩,
  ⟨none, .st 2 (.t 10) (.t 25), none⟩])
 (.seq (.dops [⟨some 26, .mv (.t 0), none⟩,
  ⟨some 27, .nilc (.t 26), none⟩,
  ⟨some 28, .fa 0 1 false (.t 27), none⟩,
  ⟨some 29, .ldo 1 false (.t 28), none⟩,
  ⟨some 30, .fa 0 1 false (.t 10), none⟩,
  ⟨some 31, .ldp 1 false (.t 30), none⟩,
  ⟨some 32, .ix 5 (.t 29) (.t 31), none⟩,
  ⟨some 33, .fa 0 1 false (.t 32), none⟩,
  ⟨some 34, .ld 1 false (.t 33), none⟩,
  ⟨some 35, .fa 1 1 false (.t 10), none⟩,
  ⟨some 36, .ldp 1 false (.t 35), none⟩,
  ⟨some 37, .ix 4 (.t 34) (.t 36), none⟩,
  ⟨some 38, .ld 4 true (.t 37), none⟩,
  ⟨some 39, .mv (.t 7), none⟩,
  ⟨some 40, .call 0 [(.t 38), (.t 39)], none⟩])
 (.cond (.t 40) (.ops [⟨some 41, .mv (.t 8), none⟩,
  ⟨some 42, .ldl 2 true 10, none⟩,
  ⟨some 43, .mkl (.agg ([.int .i64 0, .int .i64 0])) 1 [(0, (.t 42))], none⟩,
  ⟨some 44, .app 2 (.t 41) (.t 43), none⟩,
  ⟨some 8, .mv (.t 44), none⟩]) .skip))))
 (.ops [⟨some 45, .bin .add (.t 22) (.k (.int .i64 1)), none⟩,
  ⟨some 22, .mv (.t 45), none⟩])))))))
 (.ops [⟨some 46, .mv (.t 5), none⟩,
  ⟨some 47, .mv (.t 0), none⟩,
  ⟨some 48, .mv (.t 8), none⟩,
  ⟨some 49, .call 11 [(.t 47), (.t 48)], none⟩,
  ⟨some 50, .mkl (.int .i64 0) 1 [(0, (.t 49))], none⟩,
  ⟨some 51, .app 1 (.t 46) (.t 50), none⟩,
  ⟨some 5, .mv (.t 51), none⟩])))))
 (.ops [⟨some 52, .bin .add (.t 16) (.k (.int .i64 1)), none⟩,
  ⟨some 16, .mv (.t 52), none⟩])))))))
 (.seq (.ops [⟨some 53, .mv (.t 5), none⟩,
  ⟨some 4, .mv (.t 53), none⟩])
 .ret)))), [.tmp 4], false⟩
/-- slices.IndexFunc[[][]eyot/dfa.spot,[]eyot/dfa.spot] -/
def a13 : AFn := ⟨2, (.seq (.ops [⟨some 4, .mv (.k (.int .i64 0)), none⟩])
 (.seq (.seq (.ops [⟨some 6, .mv (.t 0), none⟩,
  ⟨some 7, .len (.t 6), none⟩,
  ⟨some 8, .mv (.k (.int .i64 0)), none⟩])
 (.block 0 (.loop [0, 1, 7, 8] (.seq (.ops [⟨some 9, .bin .lss (.t 8) (.t 7), none⟩])
 (.seq (.cond (.t 9) .skip (.exit 0))
 (.seq (.block 1 (.seq (.ops [⟨some 10, .mv (.t 8), none⟩,
  ⟨some 5, .mv (.t 10), none⟩])
 (.seq (.ops [⟨some 11, .mv (.t 1), none⟩,
  ⟨some 12, .mv (.t 0), none⟩,
  ⟨some 13, .mv (.t 5), none⟩,
  ⟨some 14, .ix 1 (.t 12) (.t 13), none⟩,
  ⟨some 15, .ld 1 false (.t 14), none⟩,
  ⟨some 16, .callv (.t 11) [(.t 15)], none⟩])
 (.cond (.t 16) (.seq (.ops [⟨some 17, .mv (.t 5), none⟩,
  ⟨some 4, .mv (.t 17), none⟩])
 .ret) .skip))))
 (.ops [⟨some 18, .bin .add (.t 8) (.k (.int .i64 1)), none⟩,
  ⟨some 8, .mv (.t 18), none⟩])))))))
 (.seq (.ops [⟨some 4, .mv (.k (.int .i64 (-1))), none⟩])
 .ret))), [.tmp 4], true⟩
/-- (*eyot/eyotplay.Picks).Num -/
def a14 : AFn := ⟨2, (.seq (.ops [⟨some 4, .mv (.k (.int .i64 0)), none⟩])
 (.seq (.seq (.dops [⟨some 5, .mv (.t 0), none⟩,
  ⟨some 6, .nilc (.t 5), none⟩,
  ⟨some 7, .fa 1 1 false (.t 6), none⟩,
  ⟨some 8, .ldo 1 false (.t 7), none⟩,
  ⟨some 9, .mv (.t 0), none⟩,
  ⟨some 10, .nilc (.t 9), none⟩,
  ⟨some 11, .fa 0 1 false (.t 10), none⟩,
  ⟨some 12, .ldo 1 false (.t 11), none⟩,
  ⟨some 13, .len (.t 12), none⟩,
  ⟨some 14, .bin .geq (.t 8) (.t 13), none⟩])
 (.cond (.t 14) (.seq (.ops [⟨some 4, .mv (.k (.int .i64 0)), none⟩])
 .ret) .skip))
 (.seq (.ops [⟨some 15, .mv (.t 0), none⟩,
  ⟨some 16, .nilc (.t 15), none⟩,
  ⟨some 17, .fa 1 1 false (.t 16), none⟩,
  ⟨some 18, .ld 1 false (.t 17), none⟩,
  ⟨some 19, .bin .add (.t 18) (.k (.int .i64 1)), none⟩,
  ⟨some 20, .nilc (.t 15), none⟩,
  ⟨some 21, .fa 1 1 false (.t 20), none⟩,
  ⟨none, .st 1 (.t 21) (.t 19), none⟩])
 (.seq (.dops [⟨some 22, .mv (.t 0), none⟩,
  ⟨some 23, .nilc (.t 22), none⟩,
  ⟨some 24, .fa 0 1 false (.t 23), none⟩,
  ⟨some 25, .ldo 1 false (.t 24), none⟩,
  ⟨some 26, .mv (.t 0), none⟩,
  ⟨some 27, .nilc (.t 26), none⟩,
  ⟨some 28, .fa 1 1 false (.t 27), none⟩,
  ⟨some 29, .ldo 1 false (.t 28), none⟩,
  ⟨some 30, .bin .sub (.t 29) (.k (.int .i64 1)), none⟩,
  ⟨some 31, .ix 1 (.t 25) (.t 30), none⟩,
  ⟨some 32, .ld 1 false (.t 31), none⟩,
  ⟨some 33, .cvi .i64 (.t 32), none⟩,
  ⟨some 34, .mv (.t 1), none⟩,
  ⟨some 35, .bin .rem (.t 33) (.t 34), none⟩,
  ⟨some 4, .mv (.t 35), none⟩])
 .ret)))), [.tmp 4], false⟩
/-- (*eyot/eyotplay.Picks).Rx -/
def a15 : AFn := ⟨2, (.seq (.ops [⟨some 4, .alv ([.int .i64 0, .int .u64 0, .int .u64 0, .int .u64 0, .int .u64 0, .list true []]), none⟩])
 (.seq (.ops [⟨some 11, .mv (.t 0), none⟩,
  ⟨some 12, .call 14 [(.t 11), (.k (.int .i64 9))], none⟩,
  ⟨some 5, .mv (.t 12), none⟩])
 (.seq (.seq (.ops [⟨some 13, .mv (.t 1), none⟩,
  ⟨some 14, .bin .leq (.t 13) (.k (.int .i64 0)), none⟩,
  ⟨some 15, .mv (.t 14), none⟩,
  ⟨some 16, .mv (.t 5), some (15, false)⟩,
  ⟨some 17, .bin .lss (.t 16) (.k (.int .i64 4)), some (15, false)⟩,
  ⟨some 18, .pick (.t 15) (.k (.bool true)) (.t 17), none⟩])
 (.cond (.t 18) (.seq (.ops [⟨some 19, .mv (.t 0), none⟩,
  ⟨some 20, .call 17 [(.t 19)], none⟩,
  ⟨some 21, .bld (.agg ([.int .i64 0, .int .u64 0, .int .u64 0, .int .u64 0, .int .u64 0, .list true []])) [((0, 1), (.k (.int .i64 1))), ((1, 4), (.t 20))], none⟩,
  ⟨none, .st 6 (.t 4) (.t 21), none⟩])
 .ret) .skip))
 (.seq (.ops [⟨some 22, .mv (.t 5), none⟩,
  ⟨some 23, .bin .add (.t 22) (.k (.int .i64 1)), none⟩,
  ⟨some 24, .bin .rem (.t 23) (.k (.int .i64 5)), none⟩,
  ⟨some 25, .bin .add (.k (.int .i64 2)) (.t 24), none⟩,
  ⟨some 6, .mv (.t 25), none⟩])
 (.seq (.ops [⟨some 7, .mv (.k (.int .i64 1)), none⟩])
 (.seq (.seq (.ops [⟨some 26, .mv (.t 6), none⟩,
  ⟨some 27, .bin .leq (.t 26) (.k (.int .i64 3)), none⟩])
 (.cond (.t 27) (.ops [⟨some 28, .mv (.t 0), none⟩,
  ⟨some 29, .call 14 [(.t 28), (.k (.int .i64 2))], none⟩,
  ⟨some 30, .bin .add (.k (.int .i64 2)) (.t 29), none⟩,
  ⟨some 7, .mv (.t 30), none⟩]) .skip))
 (.seq (.ops [⟨some 31, .mv (.t 6), none⟩,
  ⟨some 32, .bld (.agg ([.int .i64 0, .int .u64 0, .int .u64 0, .int .u64 0, .int .u64 0, .list true []])) [((0, 1), (.t 31))], none⟩,
  ⟨some 8, .alv ([.int .i64 0, .int .u64 0, .int .u64 0, .int .u64 0, .int .u64 0, .list true []]), none⟩,
  ⟨none, .st 6 (.t 8) (.t 32), none⟩])
 (.seq (.seq (.ops [⟨some 9, .mv (.k (.int .i64 0)), none⟩])
 (.block 0 (.loop [0, 1, 4, 6, 7, 8, 9, 47, 48, 49, 50, 51, 52, 53] (.seq (.seq (.ops [⟨some 33, .mv (.t 9), none⟩,
  ⟨some 34, .mv (.t 7), none⟩,
  ⟨some 35, .bin .lss (.t 33) (.t 34), none⟩])
 (.cond (.t 35) .skip (.exit 0)))
 (.seq (.block 1 (.seq (.ops [⟨some 38, .mv (.t 0), none⟩,
  ⟨some 39, .mv (.t 1), none⟩,
  ⟨some 40, .bin .sub (.t 39) (.k (.int .i64 1)), none⟩,
  ⟨some 41, .call 15 [(.t 38), (.t 40)], none⟩,
  ⟨some 10, .alv ([.int .i64 0, .int .u64 0, .int .u64 0, .int .u64 0, .int .u64 0, .list true []]), none⟩,
  ⟨none, .st 6 (.t 10) (.t 41), none⟩])
 (.seq (.seq (.ops [⟨some 42, .fa 0 1 false (.t 10), none⟩,
  ⟨some 43, .ldp 1 false (.t 42), none⟩,
  ⟨some 44, .mv (.t 6), none⟩,
  ⟨some 45, .bin .eql (.t 43) (.t 44), none⟩,
  ⟨some 46, .mv (.t 45), none⟩,
  ⟨some 47, .mv (.t 6), some (46, false)⟩,
  ⟨some 48, .bin .geq (.t 47) (.k (.int .i64 4)), some (46, false)⟩,
  ⟨some 49, .mv (.t 48), some (46, false)⟩,
  ⟨some 50, .fa 0 1 false (.t 10), some (49, true)⟩,
  ⟨some 51, .ldp 1 false (.t 50), some (49, true)⟩,
  ⟨some 52, .bin .geq (.t 51) (.k (.int .i64 4)), some (49, true)⟩,
  ⟨some 53, .pick (.t 49) (.t 52) (.k (.bool false)), some (46, false)⟩,
  ⟨some 54, .pick (.t 46) (.k (.bool true)) (.t 53), none⟩])
 (.cond (.t 54) (.ops [⟨some 55, .mv (.t 0), none⟩,
  ⟨some 56, .call 17 [(.t 55)], none⟩,
  ⟨some 57, .bld (.agg ([.int .i64 0, .int .u64 0, .int .u64 0, .int .u64 0, .int .u64 0, .list true []])) [((0, 1), (.k (.int .i64 1))), ((1, 4), (.t 56))], none⟩,
  ⟨none, .st 6 (.t 10) (.t 57), none⟩]) .skip))
 (.ops [⟨some 58, .fa 5 1 false (.t 8), none⟩,
  ⟨some 59, .ldp 1 false (.t 58), none⟩,
  ⟨some 60, .ldl 6 true 10, none⟩,
  ⟨some 61, .mkl (.agg ([.int .i64 0, .int .u64 0, .int .u64 0, .int .u64 0, .int .u64 0, .list true []])) 1 [(0, (.t 60))], none⟩,
  ⟨some 62, .app 6 (.t 59) (.t 61), none⟩,
  ⟨some 63, .fa 5 1 false (.t 8), none⟩,
  ⟨none, .st 1 (.t 63) (.t 62), none⟩]))))
 (.ops [⟨some 36, .mv (.t 9), none⟩,
  ⟨some 37, .bin .add (.t 36) (.k (.int .i64 1)), none⟩,
  ⟨some 9, .mv (.t 37), none⟩]))))))
 (.seq (.ops [⟨some 64, .ldl 6 true 8, none⟩,
  ⟨none, .st 6 (.t 4) (.t 64), none⟩])
 .ret))))))))), [.cell 4 6 true], false⟩
/-- eyot/eyotref8.Null -/
def a16 : AFn := ⟨1, (.seq (.ops [⟨some 1, .bim 6 (.t 0), none⟩,
  ⟨some 2, .mv (.k (.bool false)), none⟩])
 (.seq (.ops [⟨some 3, .ldi 6 true (.t 1), none⟩,
  ⟨some 4, .call 29 [(.t 3), (.k (.list true []))], none⟩,
  ⟨some 2, .mv (.t 4), none⟩])
 .ret)), [.tmp 2], true⟩
/-- (*eyot/eyotplay.Picks).Set -/
def a17 : AFn := ⟨1, (.seq (.ops [⟨some 2, .alv ([.int .u64 0, .int .u64 0, .int .u64 0, .int .u64 0]), none⟩])
 (.seq (.seq (.ops [⟨some 3, .mv (.t 0), none⟩,
  ⟨some 4, .call 14 [(.t 3), (.k (.int .i64 7))], none⟩])
 (.block 0 (.seq (.ops [⟨some 6, .bin .eql (.t 4) (.k (.int .i64 0)), none⟩,
  ⟨some 5, .mv (.t 6), none⟩])
 (.cond (.t 5) (.seq (.ops [⟨some 7, .mkl (.int .u8 0) 2 [(0, (.k (.int .u8 97))), (1, (.k (.int .u8 98)))], none⟩,
  ⟨some 8, .call 19 [(.t 7)], none⟩,
  ⟨none, .st 4 (.t 2) (.t 8), none⟩])
 .ret) (.seq (.ops [⟨some 10, .bin .eql (.t 4) (.k (.int .i64 1)), none⟩,
  ⟨some 9, .mv (.t 10), none⟩])
 (.cond (.t 9) (.seq (.ops [⟨some 11, .mkl (.int .u8 0) 3 [(0, (.k (.int .u8 98))), (1, (.k (.int .u8 99))), (2, (.k (.int .u8 100)))], none⟩,
  ⟨some 12, .call 19 [(.t 11)], none⟩,
  ⟨none, .st 4 (.t 2) (.t 12), none⟩])
 .ret) (.seq (.ops [⟨some 14, .bin .eql (.t 4) (.k (.int .i64 2)), none⟩,
  ⟨some 13, .mv (.t 14), none⟩])
 (.cond (.t 13) (.seq (.ops [⟨some 15, .mkl (.int .u8 0) 2 [(0, (.k (.int .u8 97))), (1, (.k (.int .u8 10)))], none⟩,
  ⟨some 16, .call 19 [(.t 15)], none⟩,
  ⟨some 17, .call 48 [(.t 16)], none⟩,
  ⟨none, .st 4 (.t 2) (.t 17), none⟩])
 .ret) (.seq (.ops [⟨some 19, .bin .eql (.t 4) (.k (.int .i64 3)), none⟩,
  ⟨some 18, .mv (.t 19), none⟩])
 (.cond (.t 18) (.seq (.ops [⟨some 20, .mkl (.int .u8 0) 3 [(0, (.k (.int .u8 48))), (1, (.k (.int .u8 49))), (2, (.k (.int .u8 50)))], none⟩,
  ⟨some 21, .call 19 [(.t 20)], none⟩,
  ⟨none, .st 4 (.t 2) (.t 21), none⟩])
 .ret) .skip))))))))))
 (.seq (.ops [⟨some 22, .mv (.t 0), none⟩,
  ⟨some 23, .call 14 [(.t 22), (.k (.int .i64 6))], none⟩,
  ⟨some 24, .ixs (.k (.str [97, 98, 49, 10, 32, 45])) (.t 23), none⟩,
  ⟨some 25, .mkl (.int .u8 0) 1 [(0, (.t 24))], none⟩,
  ⟨some 26, .call 19 [(.t 25)], none⟩,
  ⟨none, .st 4 (.t 2) (.t 26), none⟩])
 .ret))), [.cell 2 4 true], false⟩
/-- (*eyot/eyotplay.Picks).Any -/
def a18 : AFn := ⟨1, (.seq (.ops [⟨some 2, .alv (List.replicate 6 (.list true []) ++ [.int .i64 0]), none⟩])
 (.seq (.ops [⟨some 16, .mv (.t 0), none⟩,
  ⟨some 17, .call 14 [(.t 16), (.k (.int .i64 14))], none⟩,
  ⟨some 18, .bin .add (.k (.int .i64 1)) (.t 17), none⟩,
  ⟨some 19, .bld (.agg (List.replicate 6 (.list true []) ++ [.int .i64 0])) [((6, 1), (.t 18))], none⟩,
  ⟨some 3, .alv (List.replicate 6 (.list true []) ++ [.int .i64 0]), none⟩,
  ⟨none, .st 7 (.t 3) (.t 19), none⟩])
 (.seq (.ops [⟨some 20, .mkl (.str []) 4 [(0, (.k (.str [97]))), (1, (.k (.str [98]))), (2, (.k (.str [99]))), (3, (.k (.str [100])))], none⟩,
  ⟨some 4, .mv (.t 20), none⟩])
 (.seq (.seq (.ops [⟨some 21, .mv (.t 0), none⟩,
  ⟨some 22, .call 14 [(.t 21), (.k (.int .i64 3))], none⟩,
  ⟨some 5, .mv (.t 22), none⟩])
 (.block 0 (.loop [0, 2, 3, 4, 5, 41, 42, 43, 62, 63, 64, 136, 137, 138, 139, 140, 141, 142, 174, 175, 176, 177, 178, 179, 180, 181] (.seq (.seq (.ops [⟨some 23, .mv (.t 5), none⟩,
  ⟨some 24, .bin .geq (.t 23) (.k (.int .i64 0)), none⟩])
 (.cond (.t 24) .skip (.exit 0)))
 (.seq (.block 1 (.seq (.dops [⟨some 27, .mv (.t 4), none⟩,
  ⟨some 28, .fa 0 1 false (.t 3), none⟩,
  ⟨some 29, .ldp 1 false (.t 28), none⟩,
  ⟨some 30, .len (.t 29), none⟩,
  ⟨some 31, .ixl 1 (.t 27) (.t 30), none⟩,
  ⟨some 32, .ldi 1 false (.t 31), none⟩,
  ⟨some 33, .mv (.t 0), none⟩,
  ⟨some 34, .mv (.t 0), none⟩,
  ⟨some 35, .call 14 [(.t 34), (.k (.int .i64 3))], none⟩,
  ⟨some 36, .call 15 [(.t 33), (.t 35)], none⟩,
  ⟨some 37, .bld (.agg ([.str [], .int .i64 0, .int .u64 0, .int .u64 0, .int .u64 0, .int .u64 0, .list true [], .bool false])) [((0, 1), (.t 32)), ((1, 6), (.t 36))], none⟩,
  ⟨some 6, .alv ([.str [], .int .i64 0, .int .u64 0, .int .u64 0, .int .u64 0, .int .u64 0, .list true [], .bool false]), none⟩,
  ⟨none, .st 8 (.t 6) (.t 37), none⟩])
 (.seq (.seq (.ops [⟨some 7, .mv (.k (.int .i64 0)), none⟩])
 (.block 2 (.loop [0, 2, 3, 4, 5, 6, 7, 41, 42, 43, 62, 63, 64, 136, 137, 138, 139, 140, 141, 142, 174, 175, 176, 177, 178, 179, 180, 181] (.seq (.seq (.ops [⟨some 38, .mv (.t 7), none⟩,
  ⟨some 39, .bin .lss (.t 38) (.k (.int .i64 5)), none⟩,
  ⟨some 40, .mv (.t 39), none⟩,
  ⟨some 41, .fa 1 6 true (.t 6), some (40, true)⟩,
  ⟨some 42, .ldp 6 true (.t 41), some (40, true)⟩,
  ⟨some 43, .call 16 [(.t 42)], some (40, true)⟩,
  ⟨some 44, .pick (.t 40) (.t 43) (.k (.bool false)), none⟩])
 (.cond (.t 44) .skip (.exit 2)))
 (.seq (.block 3 (.ops [⟨some 47, .mv (.t 0), none⟩,
  ⟨some 48, .call 15 [(.t 47), (.k (.int .i64 1))], none⟩,
  ⟨some 49, .fa 1 6 true (.t 6), none⟩,
  ⟨none, .st 6 (.t 49) (.t 48), none⟩]))
 (.ops [⟨some 45, .mv (.t 7), none⟩,
  ⟨some 46, .bin .add (.t 45) (.k (.int .i64 1)), none⟩,
  ⟨some 7, .mv (.t 46), none⟩]))))))
 (.seq (.seq (.ops [⟨some 50, .fa 1 6 true (.t 6), none⟩,
  ⟨some 51, .ldp 6 true (.t 50), none⟩,
  ⟨some 52, .call 16 [(.t 51)], none⟩])
 (.cond (.t 52) (.ops [⟨some 53, .mv (.t 0), none⟩,
  ⟨some 54, .call 17 [(.t 53)], none⟩,
  ⟨some 55, .bld (.agg ([.int .i64 0, .int .u64 0, .int .u64 0, .int .u64 0, .int .u64 0, .list true []])) [((0, 1), (.k (.int .i64 1))), ((1, 4), (.t 54))], none⟩,
  ⟨some 56, .fa 1 6 true (.t 6), none⟩,
  ⟨none, .st 6 (.t 56) (.t 55), none⟩]) .skip))
 (.seq (.ops [⟨some 57, .fa 0 1 false (.t 3), none⟩,
  ⟨some 58, .ldp 1 false (.t 57), none⟩,
  ⟨some 59, .len (.t 58), none⟩,
  ⟨some 60, .bin .gtr (.t 59) (.k (.int .i64 0)), none⟩,
  ⟨some 61, .mv (.t 60), none⟩,
  ⟨some 62, .mv (.t 0), some (61, true)⟩,
  ⟨some 63, .call 14 [(.t 62), (.k (.int .i64 4))], some (61, true)⟩,
  ⟨some 64, .bin .eql (.t 63) (.k (.int .i64 0)), some (61, true)⟩,
  ⟨some 65, .pick (.t 61) (.t 64) (.k (.bool false)), none⟩,
  ⟨some 66, .fa 7 1 false (.t 6), none⟩,
  ⟨none, .st 1 (.t 66) (.t 65), none⟩])
 (.ops [⟨some 67, .fa 0 1 false (.t 3), none⟩,
  ⟨some 68, .ldp 1 false (.t 67), none⟩,
  ⟨some 69, .ldl 8 true 6, none⟩,
  ⟨some 70, .mkl (.agg ([.str [], .int .i64 0, .int .u64 0, .int .u64 0, .int .u64 0, .int .u64 0, .list true [], .bool false])) 1 [(0, (.t 69))], none⟩,
  ⟨some 71, .app 8 (.t 68) (.t 70), none⟩,
  ⟨some 72, .fa 0 1 false (.t 3), none⟩,
  ⟨none, .st 1 (.t 72) (.t 71), none⟩]))))))
 (.ops [⟨some 25, .mv (.t 5), none⟩,
  ⟨some 26, .bin .sub (.t 25) (.k (.int .i64 1)), none⟩,
  ⟨some 5, .mv (.t 26), none⟩]))))))
 (.seq (.ops [⟨some 73, .mkl (.str []) 4 [(0, (.k (.str [49]))), (1, (.k (.str [110, 97, 110]))), (2, (.k (.str [45, 105, 110, 102]))), (3, (.k (.str [48, 46, 53])))], none⟩,
  ⟨some 74, .mv (.t 0), none⟩,
  ⟨some 75, .call 14 [(.t 74), (.k (.int .i64 4))], none⟩,
  ⟨some 76, .ix 1 (.t 73) (.t 75), none⟩,
  ⟨some 77, .ld 1 false (.t 76), none⟩,
  ⟨some 78, .bld (.agg ([.str [], .str []])) [((0, 1), (.k (.str [104]))), ((1, 1), (.t 77))], none⟩,
  ⟨some 79, .mkm (.agg ([.str [], .str []])) 1 [(0, (.t 78))], none⟩,
  ⟨some 80, .fa 2 1 false (.t 3), none⟩,
  ⟨none, .st 1 (.t 80) (.t 79), none⟩])
 (.seq (.ops [⟨some 81, .mv (.t 0), none⟩,
  ⟨some 82, .call 14 [(.t 81), (.k (.int .i64 3))], none⟩,
  ⟨some 83, .bin .add (.k (.int .i64 1)) (.t 82), none⟩,
  ⟨some 8, .mv (.t 83), none⟩])
 (.seq (.seq (.ops [⟨some 9, .mv (.k (.int .i64 0)), none⟩])
 (.block 4 (.loop [0, 2, 3, 8, 9, 136, 137, 138, 139, 140, 141, 142, 174, 175, 176, 177, 178, 179, 180, 181] (.seq (.seq (.ops [⟨some 84, .mv (.t 9), none⟩,
  ⟨some 85, .mv (.t 8), none⟩,
  ⟨some 86, .bin .lss (.t 84) (.t 85), none⟩])
 (.cond (.t 86) .skip (.exit 4)))
 (.seq (.block 5 (.seq (.dops [⟨some 89, .fa 1 1 false (.t 3), none⟩,
  ⟨some 90, .ldp 1 false (.t 89), none⟩,
  ⟨some 91, .mkl (.str []) 3 [(0, (.k (.str [115]))), (1, (.k (.str [116]))), (2, (.k (.str [117])))], none⟩,
  ⟨some 92, .mv (.t 9), none⟩,
  ⟨some 93, .ix 1 (.t 91) (.t 92), none⟩,
  ⟨some 94, .ld 1 false (.t 93), none⟩,
  ⟨some 95, .mkl (.str []) 1 [(0, (.t 94))], none⟩,
  ⟨some 96, .app 1 (.t 90) (.t 95), none⟩,
  ⟨some 97, .fa 1 1 false (.t 3), none⟩,
  ⟨none, .st 1 (.t 97) (.t 96), none⟩])
 (.seq (.ops [⟨some 98, .mv (.t 0), none⟩,
  ⟨some 99, .call 14 [(.t 98), (.k (.int .i64 3))], none⟩,
  ⟨some 10, .mv (.t 99), none⟩])
 (.block 6 (.loop [0, 2, 3, 8, 9, 10, 136, 137, 138, 139, 140, 141, 142, 174, 175, 176, 177, 178, 179, 180, 181] (.seq (.seq (.ops [⟨some 100, .mv (.t 10), none⟩,
  ⟨some 101, .bin .geq (.t 100) (.k (.int .i64 0)), none⟩])
 (.cond (.t 101) .skip (.exit 6)))
 (.seq (.block 7 (.seq (.ops [⟨some 104, .mv (.t 9), none⟩,
  ⟨some 105, .mv (.t 0), none⟩,
  ⟨some 106, .call 14 [(.t 105), (.k (.int .i64 3))], none⟩,
  ⟨some 107, .bin .sub (.t 106) (.k (.int .i64 1)), none⟩,
  ⟨some 108, .bld (.agg ([.int .i64 0, .list true [], .int .i64 0])) [((0, 1), (.t 104)), ((2, 1), (.t 107))], none⟩,
  ⟨some 11, .alv ([.int .i64 0, .list true [], .int .i64 0]), none⟩,
  ⟨none, .st 3 (.t 11) (.t 108), none⟩])
 (.seq (.seq (.ops [⟨some 109, .fa 2 1 false (.t 11), none⟩,
  ⟨some 110, .ldp 1 false (.t 109), none⟩,
  ⟨some 111, .bin .gtr (.t 110) (.k (.int .i64 0)), none⟩])
 (.cond (.t 111) (.ops [⟨some 112, .fa 2 1 false (.t 11), none⟩,
  ⟨none, .st 1 (.t 112) (.k (.int .i64 (-1))), none⟩]) .skip))
 (.seq (.seq (.ops [⟨some 113, .mv (.t 0), none⟩,
  ⟨some 114, .call 14 [(.t 113), (.k (.int .i64 4))], none⟩,
  ⟨some 12, .mv (.t 114), none⟩])
 (.block 8 (.loop [0, 2, 3, 8, 9, 10, 11, 12, 136, 137, 138, 139, 140, 141, 142, 174, 175, 176, 177, 178, 179, 180, 181] (.seq (.seq (.ops [⟨some 115, .mv (.t 12), none⟩,
  ⟨some 116, .bin .gtr (.t 115) (.k (.int .i64 0)), none⟩])
 (.cond (.t 116) .skip (.exit 8)))
 (.seq (.block 9 (.seq (.ops [⟨some 119, .mv (.t 0), none⟩,
  ⟨some 120, .mv (.t 8), none⟩,
  ⟨some 121, .fa 0 1 false (.t 3), none⟩,
  ⟨some 122, .ldp 1 false (.t 121), none⟩,
  ⟨some 123, .len (.t 122), none⟩,
  ⟨some 124, .bin .add (.t 120) (.t 123), none⟩,
  ⟨some 125, .call 14 [(.t 119), (.t 124)], none⟩,
  ⟨some 13, .mv (.t 125), none⟩])
 (.seq (.seq (.ops [⟨some 126, .mv (.t 13), none⟩,
  ⟨some 127, .mv (.t 8), none⟩,
  ⟨some 128, .bin .geq (.t 126) (.t 127), none⟩])
 (.cond (.t 128) (.ops [⟨some 129, .mv (.t 13), none⟩,
  ⟨some 130, .mv (.t 8), none⟩,
  ⟨some 131, .bin .sub (.t 129) (.t 130), none⟩,
  ⟨some 132, .bin .sub (.k (.int .i64 (-1))) (.t 131), none⟩,
  ⟨some 13, .mv (.t 132), none⟩]) .skip))
 (.seq (.seq (.ops [⟨some 133, .mv (.t 13), none⟩,
  ⟨some 134, .bin .lss (.t 133) (.k (.int .i64 0)), none⟩,
  ⟨some 135, .mv (.t 134), none⟩,
  ⟨some 136, .fa 0 1 false (.t 3), some (135, true)⟩,
  ⟨some 137, .ldp 1 false (.t 136), some (135, true)⟩,
  ⟨some 138, .mv (.t 13), some (135, true)⟩,
  ⟨some 139, .bin .sub (.k (.int .i64 (-1))) (.t 138), some (135, true)⟩,
  ⟨some 140, .ix 8 (.t 137) (.t 139), some (135, true)⟩,
  ⟨some 141, .fa 7 1 false (.t 140), some (135, true)⟩,
  ⟨some 142, .ld 1 false (.t 141), some (135, true)⟩,
  ⟨some 143, .pick (.t 135) (.t 142) (.k (.bool false)), none⟩])
 (.cond (.t 143) (.ops [⟨some 13, .mv (.k (.int .i64 (-1))), none⟩]) .skip))
 (.ops [⟨some 144, .fa 1 1 false (.t 11), none⟩,
  ⟨some 145, .ldp 1 false (.t 144), none⟩,
  ⟨some 146, .mv (.t 13), none⟩,
  ⟨some 147, .mkl (.int .i64 0) 1 [(0, (.t 146))], none⟩,
  ⟨some 148, .app 1 (.t 145) (.t 147), none⟩,
  ⟨some 149, .fa 1 1 false (.t 11), none⟩,
  ⟨none, .st 1 (.t 149) (.t 148), none⟩])))))
 (.ops [⟨some 117, .mv (.t 12), none⟩,
  ⟨some 118, .bin .sub (.t 117) (.k (.int .i64 1)), none⟩,
  ⟨some 12, .mv (.t 118), none⟩]))))))
 (.ops [⟨some 150, .fa 3 1 false (.t 3), none⟩,
  ⟨some 151, .ldp 1 false (.t 150), none⟩,
  ⟨some 152, .ldl 3 true 11, none⟩,
  ⟨some 153, .mkl (.agg ([.int .i64 0, .list true [], .int .i64 0])) 1 [(0, (.t 152))], none⟩,
  ⟨some 154, .app 3 (.t 151) (.t 153), none⟩,
  ⟨some 155, .fa 3 1 false (.t 3), none⟩,
  ⟨none, .st 1 (.t 155) (.t 154), none⟩])))))
 (.ops [⟨some 102, .mv (.t 10), none⟩,
  ⟨some 103, .bin .sub (.t 102) (.k (.int .i64 1)), none⟩,
  ⟨some 10, .mv (.t 103), none⟩]))))))))
 (.ops [⟨some 87, .mv (.t 9), none⟩,
  ⟨some 88, .bin .add (.t 87) (.k (.int .i64 1)), none⟩,
  ⟨some 9, .mv (.t 88), none⟩]))))))
 (.seq (.seq (.ops [⟨some 156, .mv (.t 0), none⟩,
  ⟨some 157, .call 14 [(.t 156), (.k (.int .i64 3))], none⟩,
  ⟨some 14, .mv (.t 157), none⟩])
 (.block 10 (.loop [0, 2, 3, 14, 174, 175, 176, 177, 178, 179, 180, 181] (.seq (.seq (.ops [⟨some 158, .mv (.t 14), none⟩,
  ⟨some 159, .bin .gtr (.t 158) (.k (.int .i64 0)), none⟩])
 (.cond (.t 159) .skip (.exit 10)))
 (.seq (.block 11 (.dops [⟨some 162, .fa 4 1 false (.t 3), none⟩,
  ⟨some 163, .ldp 1 false (.t 162), none⟩,
  ⟨some 164, .mv (.t 0), none⟩,
  ⟨some 165, .call 17 [(.t 164)], none⟩,
  ⟨some 166, .mkl (.agg ([.int .u64 0, .int .u64 0, .int .u64 0, .int .u64 0])) 1 [(0, (.t 165))], none⟩,
  ⟨some 167, .app 4 (.t 163) (.t 166), none⟩,
  ⟨some 168, .fa 4 1 false (.t 3), none⟩,
  ⟨none, .st 1 (.t 168) (.t 167), none⟩]))
 (.ops [⟨some 160, .mv (.t 14), none⟩,
  ⟨some 161, .bin .sub (.t 160) (.k (.int .i64 1)), none⟩,
  ⟨some 14, .mv (.t 161), none⟩]))))))
 (.seq (.seq (.ops [⟨some 169, .mv (.t 0), none⟩,
  ⟨some 170, .call 14 [(.t 169), (.k (.int .i64 3))], none⟩,
  ⟨some 15, .mv (.t 170), none⟩])
 (.block 12 (.loop [0, 2, 3, 15, 174, 175, 176, 177, 178, 179, 180, 181] (.seq (.seq (.ops [⟨some 171, .mv (.t 15), none⟩,
  ⟨some 172, .bin .gtr (.t 171) (.k (.int .i64 0)), none⟩,
  ⟨some 173, .mv (.t 172), none⟩,
  ⟨some 174, .fa 4 1 false (.t 3), some (173, false)⟩,
  ⟨some 175, .ldp 1 false (.t 174), some (173, false)⟩,
  ⟨some 176, .len (.t 175), some (173, false)⟩,
  ⟨some 177, .fa 5 1 false (.t 3), some (173, false)⟩,
  ⟨some 178, .ldp 1 false (.t 177), some (173, false)⟩,
  ⟨some 179, .len (.t 178), some (173, false)⟩,
  ⟨some 180, .bin .add (.t 176) (.t 179), some (173, false)⟩,
  ⟨some 181, .bin .eql (.t 180) (.k (.int .i64 0)), some (173, false)⟩,
  ⟨some 182, .pick (.t 173) (.k (.bool true)) (.t 181), none⟩])
 (.cond (.t 182) .skip (.exit 12)))
 (.seq (.block 13 (.dops [⟨some 185, .fa 5 1 false (.t 3), none⟩,
  ⟨some 186, .ldp 1 false (.t 185), none⟩,
  ⟨some 187, .mv (.t 0), none⟩,
  ⟨some 188, .call 17 [(.t 187)], none⟩,
  ⟨some 189, .mkl (.agg ([.int .u64 0, .int .u64 0, .int .u64 0, .int .u64 0])) 1 [(0, (.t 188))], none⟩,
  ⟨some 190, .app 4 (.t 186) (.t 189), none⟩,
  ⟨some 191, .fa 5 1 false (.t 3), none⟩,
  ⟨none, .st 1 (.t 191) (.t 190), none⟩]))
 (.ops [⟨some 183, .mv (.t 15), none⟩,
  ⟨some 184, .bin .sub (.t 183) (.k (.int .i64 1)), none⟩,
  ⟨some 15, .mv (.t 184), none⟩]))))))
 (.seq (.ops [⟨some 192, .ldl 7 true 3, none⟩,
  ⟨none, .st 7 (.t 2) (.t 192), none⟩])
 .ret)))))))))), [.cell 2 7 true], false⟩
/-- eyot/eyotref8.Of -/
def a19 : AFn := ⟨1, (.seq (.ops [⟨some 2, .alv ([.int .u64 0, .int .u64 0, .int .u64 0, .int .u64 0]), none⟩])
 (.seq (.ops [⟨some 3, .alv ([.int .u64 0, .int .u64 0, .int .u64 0, .int .u64 0]), none⟩])
 (.seq (.seq (.ops [⟨some 4, .mv (.k (.int .i64 0)), none⟩])
 (.block 0 (.loop [0, 2, 3, 4] (.seq (.seq (.ops [⟨some 5, .mv (.t 4), none⟩,
  ⟨some 6, .mv (.t 0), none⟩,
  ⟨some 7, .len (.t 6), none⟩,
  ⟨some 8, .bin .lss (.t 5) (.t 7), none⟩])
 (.cond (.t 8) .skip (.exit 0)))
 (.seq (.block 1 (.dops [⟨some 11, .mv (.t 0), none⟩,
  ⟨some 12, .mv (.t 4), none⟩,
  ⟨some 13, .ix 1 (.t 11) (.t 12), none⟩,
  ⟨some 14, .ld 1 false (.t 13), none⟩,
  ⟨some 15, .bin .quo (.t 14) (.k (.int .u8 64)), none⟩,
  ⟨some 16, .ia 4 1 false (.t 3) (.t 15), none⟩,
  ⟨some 17, .ldp 1 false (.t 16), none⟩,
  ⟨some 18, .mv (.t 0), none⟩,
  ⟨some 19, .mv (.t 4), none⟩,
  ⟨some 20, .ix 1 (.t 18) (.t 19), none⟩,
  ⟨some 21, .ld 1 false (.t 20), none⟩,
  ⟨some 22, .bin .rem (.t 21) (.k (.int .u8 64)), none⟩,
  ⟨some 23, .bin .shl (.k (.int .u64 1)) (.t 22), none⟩,
  ⟨some 24, .bin .or (.t 17) (.t 23), none⟩,
  ⟨some 25, .ia 4 1 false (.t 3) (.t 15), none⟩,
  ⟨none, .st 1 (.t 25) (.t 24), none⟩]))
 (.ops [⟨some 9, .mv (.t 4), none⟩,
  ⟨some 10, .bin .add (.t 9) (.k (.int .i64 1)), none⟩,
  ⟨some 4, .mv (.t 10), none⟩]))))))
 (.seq (.ops [⟨some 26, .ldl 4 true 3, none⟩,
  ⟨none, .st 4 (.t 2) (.t 26), none⟩])
 .ret)))), [.cell 2 4 true], true⟩
/-- (*eyot/place.Places).walk -/
def a20 : AFn := ⟨2, (.seq (.ops [⟨some 3, .bim 6 (.t 1), none⟩,
  ⟨some 4, .alv ([.list true [], .list true [], .bool false]), none⟩])
 (.seq (.seq (.ops [⟨some 15, .fa 0 1 false (.t 3), none⟩,
  ⟨some 16, .ldi 1 false (.t 15), none⟩])
 (.block 0 (.seq (.ops [⟨some 18, .bin .eql (.t 16) (.k (.int .i64 1)), none⟩,
  ⟨some 17, .mv (.t 18), none⟩])
 (.cond (.t 17) (.seq (.ops [⟨some 19, .mv (.t 0), none⟩,
  ⟨some 20, .nilc (.t 19), none⟩,
  ⟨some 21, .fa 0 1 false (.t 20), none⟩,
  ⟨some 22, .ld 1 false (.t 21), none⟩,
  ⟨some 23, .len (.t 22), none⟩,
  ⟨some 5, .mv (.t 23), none⟩])
 (.seq (.dops [⟨some 24, .mv (.t 0), none⟩,
  ⟨some 25, .mv (.t 0), none⟩,
  ⟨some 26, .mv (.t 0), none⟩,
  ⟨some 27, .nilc (.t 26), none⟩,
  ⟨some 28, .fa 0 1 false (.t 27), none⟩,
  ⟨some 29, .ldo 1 false (.t 28), none⟩,
  ⟨some 30, .fa 1 4 true (.t 3), none⟩,
  ⟨some 31, .ldi 4 true (.t 30), none⟩,
  ⟨some 32, .mkl (.agg ([.int .u64 0, .int .u64 0, .int .u64 0, .int .u64 0])) 1 [(0, (.t 31))], none⟩,
  ⟨some 33, .app 4 (.t 29) (.t 32), none⟩,
  ⟨some 34, .mv (.t 0), none⟩,
  ⟨some 35, .nilc (.t 34), none⟩,
  ⟨some 36, .fa 3 1 false (.t 35), none⟩,
  ⟨some 37, .ldo 1 false (.t 36), none⟩,
  ⟨some 38, .mkl (.list true []) 1 [(0, (.k (.list true [])))], none⟩,
  ⟨some 39, .app 1 (.t 37) (.t 38), none⟩,
  ⟨some 40, .nilc (.t 24), none⟩,
  ⟨some 41, .fa 0 1 false (.t 40), none⟩,
  ⟨none, .sto 1 (.t 41) (.t 33), none⟩,
  ⟨some 42, .nilc (.t 25), none⟩,
  ⟨some 43, .fa 3 1 false (.t 42), none⟩,
  ⟨none, .sto 1 (.t 43) (.t 39), none⟩])
 (.seq (.ops [⟨some 44, .mv (.t 5), none⟩,
  ⟨some 45, .mkl (.int .i64 0) 1 [(0, (.t 44))], none⟩,
  ⟨some 46, .mv (.t 5), none⟩,
  ⟨some 47, .mkl (.int .i64 0) 1 [(0, (.t 46))], none⟩,
  ⟨some 48, .bld (.agg ([.list true [], .list true [], .bool false])) [((0, 1), (.t 45)), ((1, 1), (.t 47)), ((2, 1), (.k (.bool false)))], none⟩,
  ⟨none, .st 3 (.t 4) (.t 48), none⟩])
 .ret))) (.seq (.ops [⟨some 50, .bin .eql (.t 16) (.k (.int .i64 2)), none⟩,
  ⟨some 49, .mv (.t 50), none⟩])
 (.cond (.t 49) (.seq (.ops [⟨some 51, .bld (.agg ([.list true [], .list true [], .bool false])) [((2, 1), (.k (.bool true)))], none⟩,
  ⟨some 6, .alv ([.list true [], .list true [], .bool false]), none⟩,
  ⟨none, .st 3 (.t 6) (.t 51), none⟩])
 (.seq (.seq (.ops [⟨some 52, .fa 5 1 false (.t 3), none⟩,
  ⟨some 53, .ldi 1 false (.t 52), none⟩,
  ⟨some 54, .len (.t 53), none⟩,
  ⟨some 55, .mv (.k (.int .i64 0)), none⟩])
 (.block 1 (.loop [0, 4, 6, 53, 54, 55, 91, 92] (.seq (.ops [⟨some 56, .bin .lss (.t 55) (.t 54), none⟩])
 (.seq (.cond (.t 56) .skip (.exit 1))
 (.seq (.block 2 (.seq (.ops [⟨some 57, .ix 6 (.t 53) (.t 55), none⟩,
  ⟨some 58, .ld 6 true (.t 57), none⟩,
  ⟨some 8, .alv ([.int .i64 0, .int .u64 0, .int .u64 0, .int .u64 0, .int .u64 0, .list true []]), none⟩,
  ⟨none, .st 6 (.t 8) (.t 58), none⟩])
 (.seq (.ops [⟨some 59, .mv (.t 0), none⟩,
  ⟨some 60, .ldl 6 true 8, none⟩,
  ⟨some 61, .call 20 [(.t 59), (.t 60)], none⟩,
  ⟨some 9, .alv ([.list true [], .list true [], .bool false]), none⟩,
  ⟨none, .st 3 (.t 9) (.t 61), none⟩])
 (.seq (.ops [⟨some 62, .mv (.t 0), none⟩,
  ⟨some 63, .fa 1 1 false (.t 6), none⟩,
  ⟨some 64, .ldp 1 false (.t 63), none⟩,
  ⟨some 65, .fa 0 1 false (.t 9), none⟩,
  ⟨some 66, .ldp 1 false (.t 65), none⟩,
  ⟨some 67, .call 50 [(.t 62), (.t 64), (.t 66)], none⟩])
 (.seq (.seq (.ops [⟨some 68, .fa 2 1 false (.t 6), none⟩,
  ⟨some 69, .ldp 1 false (.t 68), none⟩])
 (.cond (.t 69) (.ops [⟨some 70, .fa 0 1 false (.t 6), none⟩,
  ⟨some 71, .ldp 1 false (.t 70), none⟩,
  ⟨some 72, .fa 0 1 false (.t 9), none⟩,
  ⟨some 73, .ldp 1 false (.t 72), none⟩,
  ⟨some 74, .call 49 [(.t 71), (.t 73)], none⟩,
  ⟨some 75, .fa 0 1 false (.t 6), none⟩,
  ⟨none, .st 1 (.t 75) (.t 74), none⟩]) .skip))
 (.seq (.seq (.ops [⟨some 76, .fa 2 1 false (.t 9), none⟩,
  ⟨some 77, .ldp 1 false (.t 76), none⟩])
 (.cond (.t 77) (.ops [⟨some 78, .fa 1 1 false (.t 6), none⟩,
  ⟨some 79, .ldp 1 false (.t 78), none⟩,
  ⟨some 80, .fa 1 1 false (.t 9), none⟩,
  ⟨some 81, .ldp 1 false (.t 80), none⟩,
  ⟨some 82, .call 49 [(.t 79), (.t 81)], none⟩,
  ⟨some 83, .fa 1 1 false (.t 9), none⟩,
  ⟨none, .st 1 (.t 83) (.t 82), none⟩]) .skip))
 (.ops [⟨some 84, .fa 0 1 false (.t 6), none⟩,
  ⟨some 85, .ldp 1 false (.t 84), none⟩,
  ⟨some 86, .fa 1 1 false (.t 9), none⟩,
  ⟨some 87, .ldp 1 false (.t 86), none⟩,
  ⟨some 88, .fa 2 1 false (.t 6), none⟩,
  ⟨some 89, .ldp 1 false (.t 88), none⟩,
  ⟨some 90, .mv (.t 89), none⟩,
  ⟨some 91, .fa 2 1 false (.t 9), some (90, true)⟩,
  ⟨some 92, .ldp 1 false (.t 91), some (90, true)⟩,
  ⟨some 93, .pick (.t 90) (.t 92) (.k (.bool false)), none⟩,
  ⟨some 94, .bld (.agg ([.list true [], .list true [], .bool false])) [((0, 1), (.t 85)), ((1, 1), (.t 87)), ((2, 1), (.t 93))], none⟩,
  ⟨none, .st 3 (.t 6) (.t 94), none⟩])))))))
 (.ops [⟨some 95, .bin .add (.t 55) (.k (.int .i64 1)), none⟩,
  ⟨some 55, .mv (.t 95), none⟩])))))))
 (.seq (.ops [⟨some 96, .ldl 3 true 6, none⟩,
  ⟨none, .st 3 (.t 4) (.t 96), none⟩])
 .ret))) (.seq (.ops [⟨some 98, .bin .eql (.t 16) (.k (.int .i64 3)), none⟩,
  ⟨some 97, .mv (.t 98), none⟩])
 (.cond (.t 97) (.seq (.ops [⟨some 10, .alv ([.list true [], .list true [], .bool false]), none⟩])
 (.seq (.seq (.ops [⟨some 99, .fa 5 1 false (.t 3), none⟩,
  ⟨some 100, .ldi 1 false (.t 99), none⟩,
  ⟨some 101, .len (.t 100), none⟩,
  ⟨some 102, .mv (.k (.int .i64 0)), none⟩])
 (.block 3 (.loop [0, 4, 10, 100, 101, 102, 122, 123] (.seq (.ops [⟨some 103, .bin .lss (.t 102) (.t 101), none⟩])
 (.seq (.cond (.t 103) .skip (.exit 3))
 (.seq (.block 4 (.seq (.ops [⟨some 104, .ix 6 (.t 100) (.t 102), none⟩,
  ⟨some 105, .ld 6 true (.t 104), none⟩,
  ⟨some 12, .alv ([.int .i64 0, .int .u64 0, .int .u64 0, .int .u64 0, .int .u64 0, .list true []]), none⟩,
  ⟨none, .st 6 (.t 12) (.t 105), none⟩])
 (.seq (.ops [⟨some 106, .mv (.t 0), none⟩,
  ⟨some 107, .ldl 6 true 12, none⟩,
  ⟨some 108, .call 20 [(.t 106), (.t 107)], none⟩,
  ⟨some 13, .alv ([.list true [], .list true [], .bool false]), none⟩,
  ⟨none, .st 3 (.t 13) (.t 108), none⟩])
 (.dops [⟨some 109, .fa 0 1 false (.t 10), none⟩,
  ⟨some 110, .ldp 1 false (.t 109), none⟩,
  ⟨some 111, .fa 0 1 false (.t 13), none⟩,
  ⟨some 112, .ldp 1 false (.t 111), none⟩,
  ⟨some 113, .call 49 [(.t 110), (.t 112)], none⟩,
  ⟨some 114, .fa 1 1 false (.t 10), none⟩,
  ⟨some 115, .ldp 1 false (.t 114), none⟩,
  ⟨some 116, .fa 1 1 false (.t 13), none⟩,
  ⟨some 117, .ldp 1 false (.t 116), none⟩,
  ⟨some 118, .call 49 [(.t 115), (.t 117)], none⟩,
  ⟨some 119, .fa 2 1 false (.t 10), none⟩,
  ⟨some 120, .ldp 1 false (.t 119), none⟩,
  ⟨some 121, .mv (.t 120), none⟩,
  ⟨some 122, .fa 2 1 false (.t 13), some (121, false)⟩,
  ⟨some 123, .ldp 1 false (.t 122), some (121, false)⟩,
  ⟨some 124, .pick (.t 121) (.k (.bool true)) (.t 123), none⟩,
  ⟨some 125, .bld (.agg ([.list true [], .list true [], .bool false])) [((0, 1), (.t 113)), ((1, 1), (.t 118)), ((2, 1), (.t 124))], none⟩,
  ⟨none, .st 3 (.t 10) (.t 125), none⟩]))))
 (.ops [⟨some 126, .bin .add (.t 102) (.k (.int .i64 1)), none⟩,
  ⟨some 102, .mv (.t 126), none⟩])))))))
 (.seq (.ops [⟨some 127, .ldl 3 true 10, none⟩,
  ⟨none, .st 3 (.t 4) (.t 127), none⟩])
 .ret))) .skip))))))))
 (.seq (.ops [⟨some 128, .mv (.t 0), none⟩,
  ⟨some 129, .fa 5 1 false (.t 3), none⟩,
  ⟨some 130, .ldi 1 false (.t 129), none⟩,
  ⟨some 131, .ix 6 (.t 130) (.k (.int .i64 0)), none⟩,
  ⟨some 132, .ld 6 true (.t 131), none⟩,
  ⟨some 133, .call 20 [(.t 128), (.t 132)], none⟩,
  ⟨some 14, .alv ([.list true [], .list true [], .bool false]), none⟩,
  ⟨none, .st 3 (.t 14) (.t 133), none⟩])
 (.seq (.seq (.ops [⟨some 134, .fa 0 1 false (.t 3), none⟩,
  ⟨some 135, .ldi 1 false (.t 134), none⟩,
  ⟨some 136, .bin .neq (.t 135) (.k (.int .i64 6)), none⟩])
 (.cond (.t 136) (.ops [⟨some 137, .mv (.t 0), none⟩,
  ⟨some 138, .fa 1 1 false (.t 14), none⟩,
  ⟨some 139, .ldp 1 false (.t 138), none⟩,
  ⟨some 140, .fa 0 1 false (.t 14), none⟩,
  ⟨some 141, .ldp 1 false (.t 140), none⟩,
  ⟨some 142, .call 50 [(.t 137), (.t 139), (.t 141)], none⟩]) .skip))
 (.seq (.ops [⟨some 143, .fa 2 1 false (.t 14), none⟩,
  ⟨some 144, .ldp 1 false (.t 143), none⟩,
  ⟨some 145, .mv (.t 144), none⟩,
  ⟨some 146, .fa 0 1 false (.t 3), some (145, false)⟩,
  ⟨some 147, .ldi 1 false (.t 146), some (145, false)⟩,
  ⟨some 148, .bin .neq (.t 147) (.k (.int .i64 5)), some (145, false)⟩,
  ⟨some 149, .pick (.t 145) (.k (.bool true)) (.t 148), none⟩,
  ⟨some 150, .fa 2 1 false (.t 14), none⟩,
  ⟨none, .st 1 (.t 150) (.t 149), none⟩])
 (.seq (.ops [⟨some 151, .ldl 3 true 14, none⟩,
  ⟨none, .st 3 (.t 4) (.t 151), none⟩])
 .ret)))))), [.cell 4 3 true], false⟩
/-- eyot/dfa.May -/
def a21 : AFn := ⟨1, (.seq (.ops [⟨some 1, .bim 258 (.t 0), none⟩,
  ⟨some 2, .mv (.k (.bool false)), none⟩])
 (.seq (.ops [⟨some 6, .fa 0 256 true (.t 1), none⟩,
  ⟨some 7, .sla 256 (.t 6) none none, none⟩,
  ⟨some 8, .call 41 [(.t 7)], none⟩,
  ⟨some 9, .cvi .i64 (.t 8), none⟩,
  ⟨some 10, .bin .add (.t 9) (.k (.int .i64 1)), none⟩,
  ⟨some 3, .mv (.t 10), none⟩])
 (.seq (.seq (.ops [⟨some 11, .fa 256 1 false (.t 1), none⟩,
  ⟨some 12, .ldi 1 false (.t 11), none⟩,
  ⟨some 13, .len (.t 12), none⟩,
  ⟨some 14, .bin .lss (.t 13) (.k (.int .i64 1)), none⟩,
  ⟨some 15, .mv (.t 14), none⟩,
  ⟨some 16, .fa 257 1 false (.t 1), some (15, false)⟩,
  ⟨some 17, .ldi 1 false (.t 16), some (15, false)⟩,
  ⟨some 18, .len (.t 17), some (15, false)⟩,
  ⟨some 19, .fa 256 1 false (.t 1), some (15, false)⟩,
  ⟨some 20, .ldi 1 false (.t 19), some (15, false)⟩,
  ⟨some 21, .len (.t 20), some (15, false)⟩,
  ⟨some 22, .bin .neq (.t 18) (.t 21), some (15, false)⟩,
  ⟨some 23, .pick (.t 15) (.k (.bool true)) (.t 22), none⟩,
  ⟨some 24, .mv (.t 23), none⟩,
  ⟨some 25, .fa 257 1 false (.t 1), some (24, false)⟩,
  ⟨some 26, .ldi 1 false (.t 25), some (24, false)⟩,
  ⟨some 27, .call 42 [(.t 26)], some (24, false)⟩,
  ⟨some 28, .bin .lss (.t 27) (.k (.int .i64 (-1))), some (24, false)⟩,
  ⟨some 29, .pick (.t 24) (.k (.bool true)) (.t 28), none⟩])
 (.cond (.t 29) (.seq (.ops [⟨some 2, .mv (.k (.bool false)), none⟩])
 .ret) .skip))
 (.seq (.seq (.ops [⟨some 30, .fa 256 1 false (.t 1), none⟩,
  ⟨some 31, .ldi 1 false (.t 30), none⟩,
  ⟨some 32, .len (.t 31), none⟩,
  ⟨some 33, .mv (.k (.int .i64 0)), none⟩])
 (.block 0 (.loop [1, 3, 31, 32, 33, 42, 43, 44, 47, 48, 49, 50, 51, 52] (.seq (.ops [⟨some 34, .bin .lss (.t 33) (.t 32), none⟩])
 (.seq (.cond (.t 34) .skip (.exit 0))
 (.seq (.block 1 (.seq (.ops [⟨some 35, .ix 1 (.t 31) (.t 33), none⟩,
  ⟨some 36, .ld 1 false (.t 35), none⟩,
  ⟨some 5, .mv (.t 36), none⟩])
 (.seq (.dops [⟨some 37, .mv (.t 5), none⟩,
  ⟨some 38, .len (.t 37), none⟩,
  ⟨some 39, .mv (.t 3), none⟩,
  ⟨some 40, .bin .neq (.t 38) (.t 39), none⟩,
  ⟨some 41, .mv (.t 40), none⟩,
  ⟨some 42, .mv (.t 5), some (41, false)⟩,
  ⟨some 43, .call 42 [(.t 42)], some (41, false)⟩,
  ⟨some 44, .bin .lss (.t 43) (.k (.int .i64 (-1))), some (41, false)⟩,
  ⟨some 45, .pick (.t 41) (.k (.bool true)) (.t 44), none⟩,
  ⟨some 46, .mv (.t 45), none⟩,
  ⟨some 47, .mv (.t 5), some (46, false)⟩,
  ⟨some 48, .call 40 [(.t 47)], some (46, false)⟩,
  ⟨some 49, .fa 256 1 false (.t 1), some (46, false)⟩,
  ⟨some 50, .ldi 1 false (.t 49), some (46, false)⟩,
  ⟨some 51, .len (.t 50), some (46, false)⟩,
  ⟨some 52, .bin .geq (.t 48) (.t 51), some (46, false)⟩,
  ⟨some 53, .pick (.t 46) (.k (.bool true)) (.t 52), none⟩])
 (.cond (.t 53) (.seq (.ops [⟨some 2, .mv (.k (.bool false)), none⟩])
 .ret) .skip))))
 (.ops [⟨some 54, .bin .add (.t 33) (.k (.int .i64 1)), none⟩,
  ⟨some 33, .mv (.t 54), none⟩])))))))
 (.seq (.ops [⟨some 2, .mv (.k (.bool true)), none⟩])
 .ret))))), [.tmp 2], true⟩
/-- eyot/dfa.Walk -/
def a22 : AFn := ⟨2, (.seq (.ops [⟨some 2, .bim 258 (.t 0), none⟩,
  ⟨some 4, .mv (.k (.int .i64 0)), none⟩,
  ⟨some 5, .mv (.k (.int .i64 0)), none⟩])
 (.seq (.ops [⟨some 4, .mv (.k (.int .i64 (-1))), none⟩])
 (.seq (.ops [⟨some 6, .mv (.k (.int .i64 0)), none⟩])
 (.seq (.seq (.ops [⟨some 9, .mv (.t 1), none⟩,
  ⟨some 10, .len (.t 9), none⟩,
  ⟨some 11, .mv (.k (.int .i64 0)), none⟩])
 (.block 0 (.loop [2, 4, 5, 6, 9, 10, 11] (.seq (.ops [⟨some 12, .bin .lss (.t 11) (.t 10), none⟩])
 (.seq (.cond (.t 12) .skip (.exit 0))
 (.seq (.block 1 (.seq (.ops [⟨some 13, .mv (.t 11), none⟩,
  ⟨some 14, .ix 1 (.t 9) (.t 11), none⟩,
  ⟨some 15, .ld 1 false (.t 14), none⟩,
  ⟨some 7, .mv (.t 13), none⟩,
  ⟨some 8, .mv (.t 15), none⟩])
 (.seq (.seq (.dops [⟨some 16, .fa 256 1 false (.t 2), none⟩,
  ⟨some 17, .ldi 1 false (.t 16), none⟩,
  ⟨some 18, .mv (.t 6), none⟩,
  ⟨some 19, .ix 1 (.t 17) (.t 18), none⟩,
  ⟨some 20, .ld 1 false (.t 19), none⟩,
  ⟨some 21, .mv (.t 8), none⟩,
  ⟨some 22, .fa 0 256 true (.t 2), none⟩,
  ⟨some 23, .ia 256 1 false (.t 22) (.t 21), none⟩,
  ⟨some 24, .ldi 1 false (.t 23), none⟩,
  ⟨some 25, .ix 1 (.t 20) (.t 24), none⟩,
  ⟨some 26, .ld 1 false (.t 25), none⟩,
  ⟨some 6, .mv (.t 26), none⟩])
 (.seq (.ops [⟨some 27, .mv (.t 6), none⟩,
  ⟨some 28, .bin .lss (.t 27) (.k (.int .i64 0)), none⟩])
 (.cond (.t 28) (.exit 0) .skip)))
 (.seq (.ops [⟨some 29, .fa 257 1 false (.t 2), none⟩,
  ⟨some 30, .ldi 1 false (.t 29), none⟩,
  ⟨some 31, .mv (.t 6), none⟩,
  ⟨some 32, .ix 1 (.t 30) (.t 31), none⟩,
  ⟨some 33, .ld 1 false (.t 32), none⟩,
  ⟨some 34, .bin .geq (.t 33) (.k (.int .i64 0)), none⟩])
 (.cond (.t 34) (.ops [⟨some 35, .fa 257 1 false (.t 2), none⟩,
  ⟨some 36, .ldi 1 false (.t 35), none⟩,
  ⟨some 37, .mv (.t 6), none⟩,
  ⟨some 38, .ix 1 (.t 36) (.t 37), none⟩,
  ⟨some 39, .ld 1 false (.t 38), none⟩,
  ⟨some 40, .mv (.t 7), none⟩,
  ⟨some 41, .bin .add (.t 40) (.k (.int .i64 1)), none⟩,
  ⟨some 4, .mv (.t 39), none⟩,
  ⟨some 5, .mv (.t 41), none⟩]) .skip)))))
 (.ops [⟨some 42, .bin .add (.t 11) (.k (.int .i64 1)), none⟩,
  ⟨some 11, .mv (.t 42), none⟩])))))))
 (.seq (.ops [⟨some 43, .mv (.t 4), none⟩,
  ⟨some 44, .mv (.t 5), none⟩,
  ⟨some 4, .mv (.t 43), none⟩,
  ⟨some 5, .mv (.t 44), none⟩])
 .ret))))), [.tmp 4, .tmp 5], true⟩
/-- eyot/dfa.Longest -/
def a23 : AFn := ⟨2, (.seq (.ops [⟨some 2, .bim 258 (.t 0), none⟩,
  ⟨some 4, .mv (.k (.int .i64 0)), none⟩,
  ⟨some 5, .mv (.k (.int .i64 0)), none⟩])
 (.seq (.seq (.ops [⟨some 6, .ldi 258 true (.t 2), none⟩,
  ⟨some 7, .call 21 [(.t 6)], none⟩,
  ⟨some 8, .un .not (.t 7), none⟩])
 (.cond (.t 8) (.seq (.ops [⟨some 4, .mv (.k (.int .i64 (-1))), none⟩,
  ⟨some 5, .mv (.k (.int .i64 0)), none⟩])
 .ret) .skip))
 (.seq (.ops [⟨some 9, .ldi 258 true (.t 2), none⟩,
  ⟨some 10, .mv (.t 1), none⟩,
  ⟨some 11, .call 22 [(.t 9), (.t 10)], none⟩,
  ⟨some 12, .ext 0 (.t 11), none⟩,
  ⟨some 13, .ext 1 (.t 11), none⟩,
  ⟨some 4, .mv (.t 12), none⟩,
  ⟨some 5, .mv (.t 13), none⟩])
 .ret))), [.tmp 4, .tmp 5], true⟩
/-- eyot/place.Of -/
def a24 : AFn := ⟨1, (.seq (.ops [⟨some 1, .bim 6 (.t 0), none⟩,
  ⟨some 2, .alv ([.list true [], .list true [], .list true [], .list true [], .bool false]), none⟩,
  ⟨some 3, .mv (.k (.int .i64 0)), none⟩])
 (.seq (.seq (.ops [⟨some 7, .ldi 6 true (.t 1), none⟩,
  ⟨some 8, .call 33 [(.t 7)], none⟩,
  ⟨some 4, .mv (.t 8), none⟩])
 (.seq (.ops [⟨some 9, .mv (.t 4), none⟩,
  ⟨some 10, .bin .neq (.t 9) (.k (.int .i64 0)), none⟩])
 (.cond (.t 10) (.seq (.ops [⟨some 11, .bld (.agg ([.list true [], .list true [], .list true [], .list true [], .bool false])) [], none⟩,
  ⟨some 12, .mv (.t 4), none⟩,
  ⟨none, .st 5 (.t 2) (.t 11), none⟩,
  ⟨some 3, .mv (.t 12), none⟩])
 (.seq (.ops [⟨none, .frz (.ag 0 (.sl .no) (.ag 1 (.sl .no) (.ag 2 (.sl .no) (.ag 3 (.sl (.sl .no)) .no)))) 2, none⟩]) .ret)) .skip)))
 (.seq (.ops [⟨some 5, .aob ([.list true [], .list true [], .list true [], .list true [], .bool false]), none⟩])
 (.seq (.ops [⟨some 13, .ldi 6 true (.t 1), none⟩,
  ⟨some 14, .call 20 [(.t 5), (.t 13)], none⟩,
  ⟨some 6, .alv ([.list true [], .list true [], .bool false]), none⟩,
  ⟨none, .st 3 (.t 6) (.t 14), none⟩])
 (.seq (.seq (.ops [⟨some 15, .fa 0 1 false (.t 5), none⟩,
  ⟨some 16, .ldo 1 false (.t 15), none⟩,
  ⟨some 17, .len (.t 16), none⟩,
  ⟨some 18, .bin .gtr (.t 17) (.k (.int .i64 40)), none⟩])
 (.cond (.t 18) (.seq (.ops [⟨some 19, .bld (.agg ([.list true [], .list true [], .list true [], .list true [], .bool false])) [], none⟩,
  ⟨none, .st 5 (.t 2) (.t 19), none⟩,
  ⟨some 3, .mv (.k (.int .i64 6)), none⟩])
 (.seq (.ops [⟨none, .frz (.ag 0 (.sl .no) (.ag 1 (.sl .no) (.ag 2 (.sl .no) (.ag 3 (.sl (.sl .no)) .no)))) 2, none⟩]) .ret)) .skip))
 (.seq (.dops [⟨some 20, .fa 0 1 false (.t 6), none⟩,
  ⟨some 21, .ldp 1 false (.t 20), none⟩,
  ⟨some 22, .fa 1 1 false (.t 6), none⟩,
  ⟨some 23, .ldp 1 false (.t 22), none⟩,
  ⟨some 24, .fa 2 1 false (.t 6), none⟩,
  ⟨some 25, .ldp 1 false (.t 24), none⟩,
  ⟨some 26, .fa 1 1 false (.t 5), none⟩,
  ⟨none, .sto 1 (.t 26) (.t 21), none⟩,
  ⟨some 27, .fa 2 1 false (.t 5), none⟩,
  ⟨none, .sto 1 (.t 27) (.t 23), none⟩,
  ⟨some 28, .fa 4 1 false (.t 5), none⟩,
  ⟨none, .sto 1 (.t 28) (.t 25), none⟩])
 (.seq (.ops [⟨some 29, .ldo 5 true (.t 5), none⟩,
  ⟨none, .st 5 (.t 2) (.t 29), none⟩,
  ⟨some 3, .mv (.k (.int .i64 0)), none⟩])
 (.seq (.ops [⟨none, .frz (.ag 0 (.sl .no) (.ag 1 (.sl .no) (.ag 2 (.sl .no) (.ag 3 (.sl (.sl .no)) .no)))) 2, none⟩]) .ret)))))))), [.cell 2 5 true, .tmp 3], true⟩
/-- eyot/dfa.Make -/
def a25 : AFn := ⟨1, (.seq (.ops [⟨some 2, .alv (List.replicate 256 (.int .u8 0) ++ [.list true [], .list true []]), none⟩,
  ⟨some 3, .mv (.k (.int .i64 0)), none⟩])
 (.seq (.ops [⟨some 11, .bld (.agg ([.list true []] ++ List.replicate 256 (.int .u8 0) ++ [.list true [], .list true [], .list true [], .list true []])) [], none⟩,
  ⟨some 12, .bob 261 (.t 11), none⟩,
  ⟨some 4, .mv (.t 12), none⟩])
 (.seq (.ops [⟨some 5, .mv (.k (.int .i64 (-1))), none⟩])
 (.seq (.seq (.ops [⟨some 13, .mv (.t 0), none⟩,
  ⟨some 14, .len (.t 13), none⟩,
  ⟨some 15, .mv (.k (.int .i64 0)), none⟩])
 (.block 0 (.loop [2, 4, 5, 13, 14, 15, 33, 34] (.seq (.ops [⟨some 16, .bin .lss (.t 15) (.t 14), none⟩])
 (.seq (.cond (.t 16) .skip (.exit 0))
 (.seq (.block 1 (.seq (.ops [⟨some 17, .mv (.t 15), none⟩,
  ⟨some 18, .ix 8 (.t 13) (.t 15), none⟩,
  ⟨some 19, .ld 8 true (.t 18), none⟩,
  ⟨some 7, .alv ([.str [], .int .i64 0, .int .u64 0, .int .u64 0, .int .u64 0, .int .u64 0, .list true [], .bool false]), none⟩,
  ⟨some 6, .mv (.t 17), none⟩,
  ⟨none, .st 8 (.t 7) (.t 19), none⟩])
 (.seq (.ops [⟨some 21, .fa 1 6 true (.t 7), none⟩,
  ⟨some 22, .ldp 6 true (.t 21), none⟩,
  ⟨some 23, .call 24 [(.t 22)], none⟩,
  ⟨some 20, .mv (.t 23), none⟩,
  ⟨some 24, .ext 0 (.t 20), none⟩,
  ⟨some 25, .ext 1 (.t 20), none⟩,
  ⟨some 8, .alv ([.list true [], .list true [], .list true [], .list true [], .bool false]), none⟩,
  ⟨none, .st 5 (.t 8) (.t 24), none⟩,
  ⟨some 9, .mv (.t 25), none⟩])
 (.seq (.seq (.ops [⟨some 26, .mv (.t 9), none⟩,
  ⟨some 27, .bin .neq (.t 26) (.k (.int .i64 0)), none⟩])
 (.cond (.t 27) (.seq (.ops [⟨some 28, .bld (.agg (List.replicate 256 (.int .u8 0) ++ [.list true [], .list true []])) [], none⟩,
  ⟨some 29, .mv (.t 9), none⟩,
  ⟨none, .st 258 (.t 2) (.t 28), none⟩,
  ⟨some 3, .mv (.t 29), none⟩])
 (.seq (.ops [⟨none, .frz (.ag 256 (.sl (.sl .no)) (.ag 257 (.sl .no) .no)) 2, none⟩]) .ret)) .skip))
 (.seq (.seq (.ops [⟨some 30, .fa 4 1 false (.t 8), none⟩,
  ⟨some 31, .ldp 1 false (.t 30), none⟩,
  ⟨some 32, .mv (.t 31), none⟩,
  ⟨some 33, .mv (.t 5), some (32, true)⟩,
  ⟨some 34, .bin .lss (.t 33) (.k (.int .i64 0)), some (32, true)⟩,
  ⟨some 35, .pick (.t 32) (.t 34) (.k (.bool false)), none⟩])
 (.cond (.t 35) (.ops [⟨some 36, .mv (.t 6), none⟩,
  ⟨some 5, .mv (.t 36), none⟩]) .skip))
 (.dops [⟨some 37, .mv (.t 4), none⟩,
  ⟨some 38, .mv (.t 4), none⟩,
  ⟨some 39, .nilc (.t 38), none⟩,
  ⟨some 40, .fa 0 1 false (.t 39), none⟩,
  ⟨some 41, .ld 1 false (.t 40), none⟩,
  ⟨some 42, .ldl 5 true 8, none⟩,
  ⟨some 43, .mkl (.agg ([.list true [], .list true [], .list true [], .list true [], .bool false])) 1 [(0, (.t 42))], none⟩,
  ⟨some 44, .app 5 (.t 41) (.t 43), none⟩,
  ⟨some 45, .nilc (.t 37), none⟩,
  ⟨some 46, .fa 0 1 false (.t 45), none⟩,
  ⟨none, .st 1 (.t 46) (.t 44), none⟩]))))))
 (.ops [⟨some 47, .bin .add (.t 15) (.k (.int .i64 1)), none⟩,
  ⟨some 15, .mv (.t 47), none⟩])))))))
 (.seq (.ops [⟨some 48, .mv (.t 4), none⟩,
  ⟨some 49, .call 8 [(.t 48)], none⟩])
 (.seq (.ops [⟨some 50, .mv (.t 4), none⟩,
  ⟨some 51, .mv (.t 5), none⟩,
  ⟨some 52, .mkm (.int .i64 0) 1 [(0, (.t 51))], none⟩,
  ⟨some 53, .nilc (.t 50), none⟩,
  ⟨some 54, .fa 1 258 true (.t 53), none⟩,
  ⟨some 55, .fa 257 1 false (.t 54), none⟩,
  ⟨none, .st 1 (.t 55) (.t 52), none⟩])
 (.seq (.ops [⟨some 56, .mv (.t 4), none⟩,
  ⟨some 57, .mv (.t 4), none⟩,
  ⟨some 58, .mv (.t 4), none⟩,
  ⟨some 59, .call 2 [(.t 58)], none⟩,
  ⟨some 60, .call 12 [(.t 57), (.t 59)], none⟩,
  ⟨some 61, .mkm (.list true []) 1 [(0, (.t 60))], none⟩,
  ⟨some 62, .nilc (.t 56), none⟩,
  ⟨some 63, .fa 1 258 true (.t 62), none⟩,
  ⟨some 64, .fa 256 1 false (.t 63), none⟩,
  ⟨none, .st 1 (.t 64) (.t 61), none⟩])
 (.seq (.seq (.ops [⟨some 10, .mv (.k (.int .i64 0)), none⟩])
 (.block 2 (.loop [2, 4, 10] (.seq (.seq (.ops [⟨some 65, .mv (.t 10), none⟩,
  ⟨some 66, .mv (.t 4), none⟩,
  ⟨some 67, .nilc (.t 66), none⟩,
  ⟨some 68, .fa 260 1 false (.t 67), none⟩,
  ⟨some 69, .ld 1 false (.t 68), none⟩,
  ⟨some 70, .len (.t 69), none⟩,
  ⟨some 71, .bin .lss (.t 65) (.t 70), none⟩])
 (.cond (.t 71) .skip (.exit 2)))
 (.seq (.block 3 (.seq (.seq (.ops [⟨some 74, .mv (.t 4), none⟩,
  ⟨some 75, .nilc (.t 74), none⟩,
  ⟨some 76, .fa 260 1 false (.t 75), none⟩,
  ⟨some 77, .ld 1 false (.t 76), none⟩,
  ⟨some 78, .len (.t 77), none⟩,
  ⟨some 79, .bin .geq (.t 78) (.k (.int .i64 60)), none⟩])
 (.cond (.t 79) (.seq (.ops [⟨some 80, .bld (.agg (List.replicate 256 (.int .u8 0) ++ [.list true [], .list true []])) [], none⟩,
  ⟨none, .st 258 (.t 2) (.t 80), none⟩,
  ⟨some 3, .mv (.k (.int .i64 6)), none⟩])
 (.seq (.ops [⟨none, .frz (.ag 256 (.sl (.sl .no)) (.ag 257 (.sl .no) .no)) 2, none⟩]) .ret)) .skip))
 (.dops [⟨some 81, .mv (.t 4), none⟩,
  ⟨some 82, .mv (.t 4), none⟩,
  ⟨some 83, .nilc (.t 82), none⟩,
  ⟨some 84, .fa 1 258 true (.t 83), none⟩,
  ⟨some 85, .fa 256 1 false (.t 84), none⟩,
  ⟨some 86, .ld 1 false (.t 85), none⟩,
  ⟨some 87, .mv (.t 4), none⟩,
  ⟨some 88, .mv (.t 4), none⟩,
  ⟨some 89, .mv (.t 4), none⟩,
  ⟨some 90, .nilc (.t 89), none⟩,
  ⟨some 91, .fa 260 1 false (.t 90), none⟩,
  ⟨some 92, .ld 1 false (.t 91), none⟩,
  ⟨some 93, .mv (.t 10), none⟩,
  ⟨some 94, .ix 1 (.t 92) (.t 93), none⟩,
  ⟨some 95, .ld 1 false (.t 94), none⟩,
  ⟨some 96, .call 5 [(.t 88), (.t 95)], none⟩,
  ⟨some 97, .callc 12 [(.t 87), (.t 96)] [(86, 1, false, (.t 85))], none⟩,
  ⟨some 98, .mkl (.list true []) 1 [(0, (.t 97))], none⟩,
  ⟨some 99, .app 1 (.t 86) (.t 98), none⟩,
  ⟨some 100, .nilc (.t 81), none⟩,
  ⟨some 101, .fa 1 258 true (.t 100), none⟩,
  ⟨some 102, .fa 256 1 false (.t 101), none⟩,
  ⟨none, .st 1 (.t 102) (.t 99), none⟩])))
 (.ops [⟨some 72, .mv (.t 10), none⟩,
  ⟨some 73, .bin .add (.t 72) (.k (.int .i64 1)), none⟩,
  ⟨some 10, .mv (.t 73), none⟩]))))))
 (.seq (.ops [⟨some 103, .mv (.t 4), none⟩,
  ⟨some 104, .nilc (.t 103), none⟩,
  ⟨some 105, .fa 1 258 true (.t 104), none⟩,
  ⟨some 106, .ld 258 true (.t 105), none⟩,
  ⟨none, .st 258 (.t 2) (.t 106), none⟩,
  ⟨some 3, .mv (.k (.int .i64 0)), none⟩])
 (.seq (.ops [⟨none, .frz (.ag 256 (.sl (.sl .no)) (.ag 257 (.sl .no) .no)) 2, none⟩]) .ret)))))))))), [.cell 2 258 true, .tmp 3], true⟩
/-- eyot/dfa.Run -/
def a26 : AFn := ⟨2, (.seq (.ops [⟨some 2, .bim 258 (.t 0), none⟩,
  ⟨some 4, .mv (.k (.int .i64 0)), none⟩])
 (.seq (.seq (.ops [⟨some 8, .ldi 258 true (.t 2), none⟩,
  ⟨some 9, .call 21 [(.t 8)], none⟩,
  ⟨some 10, .un .not (.t 9), none⟩])
 (.cond (.t 10) (.seq (.ops [⟨some 4, .mv (.k (.int .i64 (-1))), none⟩])
 .ret) .skip))
 (.seq (.ops [⟨some 5, .mv (.k (.int .i64 0)), none⟩])
 (.seq (.seq (.ops [⟨some 11, .mv (.t 1), none⟩,
  ⟨some 12, .len (.t 11), none⟩,
  ⟨some 13, .mv (.k (.int .i64 0)), none⟩])
 (.block 0 (.loop [2, 5, 11, 12, 13] (.seq (.ops [⟨some 14, .bin .lss (.t 13) (.t 12), none⟩])
 (.seq (.cond (.t 14) .skip (.exit 0))
 (.seq (.block 1 (.seq (.ops [⟨some 15, .ix 1 (.t 11) (.t 13), none⟩,
  ⟨some 16, .ld 1 false (.t 15), none⟩,
  ⟨some 7, .mv (.t 16), none⟩])
 (.seq (.dops [⟨some 17, .fa 256 1 false (.t 2), none⟩,
  ⟨some 18, .ldi 1 false (.t 17), none⟩,
  ⟨some 19, .mv (.t 5), none⟩,
  ⟨some 20, .ix 1 (.t 18) (.t 19), none⟩,
  ⟨some 21, .ld 1 false (.t 20), none⟩,
  ⟨some 22, .mv (.t 7), none⟩,
  ⟨some 23, .fa 0 256 true (.t 2), none⟩,
  ⟨some 24, .ia 256 1 false (.t 23) (.t 22), none⟩,
  ⟨some 25, .ldi 1 false (.t 24), none⟩,
  ⟨some 26, .ix 1 (.t 21) (.t 25), none⟩,
  ⟨some 27, .ld 1 false (.t 26), none⟩,
  ⟨some 5, .mv (.t 27), none⟩])
 (.seq (.ops [⟨some 28, .mv (.t 5), none⟩,
  ⟨some 29, .bin .lss (.t 28) (.k (.int .i64 0)), none⟩])
 (.cond (.t 29) (.seq (.ops [⟨some 4, .mv (.k (.int .i64 (-1))), none⟩])
 .ret) .skip)))))
 (.ops [⟨some 30, .bin .add (.t 13) (.k (.int .i64 1)), none⟩,
  ⟨some 13, .mv (.t 30), none⟩])))))))
 (.seq (.ops [⟨some 31, .fa 257 1 false (.t 2), none⟩,
  ⟨some 32, .ldi 1 false (.t 31), none⟩,
  ⟨some 33, .mv (.t 5), none⟩,
  ⟨some 34, .ix 1 (.t 32) (.t 33), none⟩,
  ⟨some 35, .ld 1 false (.t 34), none⟩,
  ⟨some 4, .mv (.t 35), none⟩])
 .ret))))), [.tmp 4], true⟩
/-- eyot/eyotlaw11.begun -/
def a27 : AFn := ⟨0, (.seq (.ops [⟨some 0, .mv (.k (.bool false)), none⟩])
 (.seq (.ops [⟨some 6, .mkl (.int .u8 0) 1 [(0, (.k (.int .u8 0)))], none⟩,
  ⟨some 7, .call 28 [(.t 6)], none⟩,
  ⟨some 8, .call 25 [(.t 7)], none⟩,
  ⟨some 5, .mv (.t 8), none⟩,
  ⟨some 9, .ext 0 (.t 5), none⟩,
  ⟨some 10, .ext 1 (.t 5), none⟩,
  ⟨some 1, .alv (List.replicate 256 (.int .u8 0) ++ [.list true [], .list true []]), none⟩,
  ⟨none, .st 258 (.t 1) (.t 9), none⟩,
  ⟨some 2, .mv (.t 10), none⟩])
 (.seq (.ops [⟨some 12, .ldl 258 true 1, none⟩,
  ⟨some 13, .mkl (.int .u8 0) 2 [(0, (.k (.int .u8 97))), (1, (.k (.int .u8 98)))], none⟩,
  ⟨some 14, .cvl (.t 13), none⟩,
  ⟨some 15, .call 23 [(.t 12), (.t 14)], none⟩,
  ⟨some 11, .mv (.t 15), none⟩,
  ⟨some 16, .ext 0 (.t 11), none⟩,
  ⟨some 17, .ext 1 (.t 11), none⟩,
  ⟨some 3, .mv (.t 16), none⟩,
  ⟨some 4, .mv (.t 17), none⟩])
 (.seq (.ops [⟨some 18, .mv (.t 2), none⟩,
  ⟨some 19, .bin .eql (.t 18) (.k (.int .i64 0)), none⟩,
  ⟨some 20, .mv (.t 19), none⟩,
  ⟨some 21, .fa 256 1 false (.t 1), some (20, true)⟩,
  ⟨some 22, .ldp 1 false (.t 21), some (20, true)⟩,
  ⟨some 23, .len (.t 22), some (20, true)⟩,
  ⟨some 24, .bin .gtr (.t 23) (.k (.int .i64 1)), some (20, true)⟩,
  ⟨some 25, .pick (.t 20) (.t 24) (.k (.bool false)), none⟩,
  ⟨some 26, .mv (.t 25), none⟩,
  ⟨some 27, .ldl 258 true 1, some (26, true)⟩,
  ⟨some 28, .call 21 [(.t 27)], some (26, true)⟩,
  ⟨some 29, .pick (.t 26) (.t 28) (.k (.bool false)), none⟩,
  ⟨some 30, .mv (.t 29), none⟩,
  ⟨some 31, .mv (.t 4), some (30, true)⟩,
  ⟨some 32, .bin .gtr (.t 31) (.k (.int .i64 0)), some (30, true)⟩,
  ⟨some 33, .pick (.t 30) (.t 32) (.k (.bool false)), none⟩,
  ⟨some 34, .mv (.t 33), none⟩,
  ⟨some 35, .mv (.t 3), some (34, true)⟩,
  ⟨some 36, .bin .eql (.t 35) (.k (.int .i64 0)), some (34, true)⟩,
  ⟨some 37, .pick (.t 34) (.t 36) (.k (.bool false)), none⟩,
  ⟨some 38, .mv (.t 37), none⟩,
  ⟨some 39, .ldl 258 true 1, some (38, true)⟩,
  ⟨some 40, .mkl (.int .u8 0) 1 [(0, (.k (.int .u8 97)))], some (38, true)⟩,
  ⟨some 41, .cvl (.t 40), some (38, true)⟩,
  ⟨some 42, .call 26 [(.t 39), (.t 41)], some (38, true)⟩,
  ⟨some 43, .bin .eql (.t 42) (.k (.int .i64 0)), some (38, true)⟩,
  ⟨some 44, .pick (.t 38) (.t 43) (.k (.bool false)), none⟩,
  ⟨some 0, .mv (.t 44), none⟩])
 .ret)))), [.tmp 0], true⟩
/-- eyot/eyotlaw11.tokens -/
def a28 : AFn := ⟨1, (.seq (.ops [⟨some 2, .mv (.k (.list true [])), none⟩])
 (.seq (.ops [⟨some 3, .mv (.t 0), none⟩,
  ⟨some 4, .call 30 [(.t 3)], none⟩,
  ⟨some 5, .call 18 [(.t 4)], none⟩,
  ⟨some 6, .fld 0 1 false (.t 5), none⟩,
  ⟨some 2, .mv (.t 6), none⟩])
 (.seq (.ops [⟨none, .frz (.sl (.ag 6 (.sl (.ag 5 (.sl .no) .no)) .no)) 2, none⟩]) .ret))), [.tmp 2], true⟩
/-- eyot/eyotref8.In -/
def a29 : AFn := ⟨2, (.seq (.ops [⟨some 2, .bim 6 (.t 0), none⟩,
  ⟨some 4, .mv (.k (.bool false)), none⟩])
 (.seq (.ops [⟨some 5, .ldi 6 true (.t 2), none⟩,
  ⟨some 6, .mv (.t 1), none⟩,
  ⟨some 7, .call 31 [(.t 5), (.t 6)], none⟩,
  ⟨some 8, .ix 1 (.t 7) (.k (.int .i64 0)), none⟩,
  ⟨some 9, .ld 1 false (.t 8), none⟩,
  ⟨some 10, .mv (.t 1), none⟩,
  ⟨some 11, .len (.t 10), none⟩,
  ⟨some 12, .ix 1 (.t 9) (.t 11), none⟩,
  ⟨some 13, .ld 1 false (.t 12), none⟩,
  ⟨some 4, .mv (.t 13), none⟩])
 .ret)), [.tmp 4], true⟩
/-- eyot/eyotplay.Made -/
def a30 : AFn := ⟨1, (.seq (.ops [⟨some 2, .mv (.k (.nilp)), none⟩])
 (.seq (.ops [⟨some 3, .mv (.t 0), none⟩,
  ⟨some 4, .bld (.agg ([.list true [], .int .i64 0])) [((0, 1), (.t 3))], none⟩,
  ⟨some 5, .bob 2 (.t 4), none⟩,
  ⟨some 2, .mv (.t 5), none⟩])
 .ret)), [.tmp 2], false⟩
/-- eyot/eyotref8.spans -/
def a31 : AFn := ⟨2, (.seq (.ops [⟨some 2, .bim 6 (.t 0), none⟩,
  ⟨some 4, .mv (.k (.list true [])), none⟩])
 (.seq (.ops [⟨some 18, .mv (.t 1), none⟩,
  ⟨some 19, .len (.t 18), none⟩,
  ⟨some 20, .bin .add (.t 19) (.k (.int .i64 1)), none⟩,
  ⟨some 5, .mv (.t 20), none⟩])
 (.seq (.ops [⟨some 21, .mv (.t 5), none⟩,
  ⟨some 22, .call 32 [(.t 21)], none⟩,
  ⟨some 6, .mv (.t 22), none⟩])
 (.seq (.seq (.ops [⟨some 23, .fa 0 1 false (.t 2), none⟩,
  ⟨some 24, .ldi 1 false (.t 23), none⟩])
 (.block 0 (.seq (.ops [⟨some 26, .bin .eql (.t 24) (.k (.int .i64 1)), none⟩,
  ⟨some 25, .mv (.t 26), none⟩])
 (.cond (.t 25) (.seq (.seq (.ops [⟨some 7, .mv (.k (.int .i64 0)), none⟩])
 (.block 1 (.loop [1, 2, 5, 6, 7] (.seq (.seq (.ops [⟨some 27, .mv (.t 7), none⟩,
  ⟨some 28, .bin .add (.t 27) (.k (.int .i64 1)), none⟩,
  ⟨some 29, .mv (.t 5), none⟩,
  ⟨some 30, .bin .lss (.t 28) (.t 29), none⟩])
 (.cond (.t 30) .skip (.exit 1)))
 (.seq (.block 2 (.dops [⟨some 33, .mv (.t 6), none⟩,
  ⟨some 34, .mv (.t 7), none⟩,
  ⟨some 35, .ix 1 (.t 33) (.t 34), none⟩,
  ⟨some 36, .ld 1 false (.t 35), none⟩,
  ⟨some 37, .mv (.t 7), none⟩,
  ⟨some 38, .bin .add (.t 37) (.k (.int .i64 1)), none⟩,
  ⟨some 39, .fa 1 4 true (.t 2), none⟩,
  ⟨some 40, .ldi 4 true (.t 39), none⟩,
  ⟨some 41, .mv (.t 1), none⟩,
  ⟨some 42, .mv (.t 7), none⟩,
  ⟨some 43, .ix 1 (.t 41) (.t 42), none⟩,
  ⟨some 44, .ld 1 false (.t 43), none⟩,
  ⟨some 45, .call 51 [(.t 40), (.t 44)], none⟩,
  ⟨some 46, .ix 1 (.t 36) (.t 38), none⟩,
  ⟨none, .st 1 (.t 46) (.t 45), none⟩]))
 (.ops [⟨some 31, .mv (.t 7), none⟩,
  ⟨some 32, .bin .add (.t 31) (.k (.int .i64 1)), none⟩,
  ⟨some 7, .mv (.t 32), none⟩]))))))
 (.seq (.ops [⟨some 47, .mv (.t 6), none⟩,
  ⟨some 4, .mv (.t 47), none⟩])
 (.seq (.ops [⟨none, .frz (.sl (.sl .no)) 4, none⟩]) .ret))) (.seq (.ops [⟨some 49, .bin .eql (.t 24) (.k (.int .i64 3)), none⟩,
  ⟨some 48, .mv (.t 49), none⟩])
 (.cond (.t 48) (.seq (.seq (.ops [⟨some 8, .mv (.k (.int .i64 0)), none⟩])
 (.block 3 (.loop [1, 2, 5, 6, 8, 88, 89, 90, 91, 92, 93, 94] (.seq (.seq (.ops [⟨some 50, .mv (.t 8), none⟩,
  ⟨some 51, .fa 5 1 false (.t 2), none⟩,
  ⟨some 52, .ldi 1 false (.t 51), none⟩,
  ⟨some 53, .len (.t 52), none⟩,
  ⟨some 54, .bin .lss (.t 50) (.t 53), none⟩])
 (.cond (.t 54) .skip (.exit 3)))
 (.seq (.block 4 (.seq (.ops [⟨some 57, .fa 5 1 false (.t 2), none⟩,
  ⟨some 58, .ldi 1 false (.t 57), none⟩,
  ⟨some 59, .mv (.t 8), none⟩,
  ⟨some 60, .ix 6 (.t 58) (.t 59), none⟩,
  ⟨some 61, .ld 6 true (.t 60), none⟩,
  ⟨some 62, .mv (.t 1), none⟩,
  ⟨some 63, .call 31 [(.t 61), (.t 62)], none⟩,
  ⟨some 9, .mv (.t 63), none⟩])
 (.seq (.ops [⟨some 10, .mv (.k (.int .i64 0)), none⟩])
 (.block 5 (.loop [1, 2, 5, 6, 8, 9, 10, 88, 89, 90, 91, 92, 93, 94] (.seq (.seq (.ops [⟨some 64, .mv (.t 10), none⟩,
  ⟨some 65, .mv (.t 5), none⟩,
  ⟨some 66, .bin .lss (.t 64) (.t 65), none⟩])
 (.cond (.t 66) .skip (.exit 5)))
 (.seq (.block 6 (.seq (.ops [⟨some 69, .mv (.t 10), none⟩,
  ⟨some 11, .mv (.t 69), none⟩])
 (.block 7 (.loop [1, 2, 5, 6, 8, 9, 10, 11, 88, 89, 90, 91, 92, 93, 94] (.seq (.seq (.ops [⟨some 70, .mv (.t 11), none⟩,
  ⟨some 71, .mv (.t 5), none⟩,
  ⟨some 72, .bin .lss (.t 70) (.t 71), none⟩])
 (.cond (.t 72) .skip (.exit 7)))
 (.seq (.block 8 (.dops [⟨some 75, .mv (.t 6), none⟩,
  ⟨some 76, .mv (.t 10), none⟩,
  ⟨some 77, .ix 1 (.t 75) (.t 76), none⟩,
  ⟨some 78, .ld 1 false (.t 77), none⟩,
  ⟨some 79, .mv (.t 11), none⟩,
  ⟨some 80, .mv (.t 6), none⟩,
  ⟨some 81, .mv (.t 10), none⟩,
  ⟨some 82, .ix 1 (.t 80) (.t 81), none⟩,
  ⟨some 83, .ld 1 false (.t 82), none⟩,
  ⟨some 84, .mv (.t 11), none⟩,
  ⟨some 85, .ix 1 (.t 83) (.t 84), none⟩,
  ⟨some 86, .ld 1 false (.t 85), none⟩,
  ⟨some 87, .mv (.t 86), none⟩,
  ⟨some 88, .mv (.t 9), some (87, false)⟩,
  ⟨some 89, .mv (.t 10), some (87, false)⟩,
  ⟨some 90, .ix 1 (.t 88) (.t 89), some (87, false)⟩,
  ⟨some 91, .ld 1 false (.t 90), some (87, false)⟩,
  ⟨some 92, .mv (.t 11), some (87, false)⟩,
  ⟨some 93, .ix 1 (.t 91) (.t 92), some (87, false)⟩,
  ⟨some 94, .ld 1 false (.t 93), some (87, false)⟩,
  ⟨some 95, .pick (.t 87) (.k (.bool true)) (.t 94), none⟩,
  ⟨some 96, .ix 1 (.t 78) (.t 79), none⟩,
  ⟨none, .st 1 (.t 96) (.t 95), none⟩]))
 (.ops [⟨some 73, .mv (.t 11), none⟩,
  ⟨some 74, .bin .add (.t 73) (.k (.int .i64 1)), none⟩,
  ⟨some 11, .mv (.t 74), none⟩])))))))
 (.ops [⟨some 67, .mv (.t 10), none⟩,
  ⟨some 68, .bin .add (.t 67) (.k (.int .i64 1)), none⟩,
  ⟨some 10, .mv (.t 68), none⟩]))))))))
 (.ops [⟨some 55, .mv (.t 8), none⟩,
  ⟨some 56, .bin .add (.t 55) (.k (.int .i64 1)), none⟩,
  ⟨some 8, .mv (.t 56), none⟩]))))))
 (.seq (.ops [⟨some 97, .mv (.t 6), none⟩,
  ⟨some 4, .mv (.t 97), none⟩])
 (.seq (.ops [⟨none, .frz (.sl (.sl .no)) 4, none⟩]) .ret))) (.seq (.ops [⟨some 99, .bin .eql (.t 24) (.k (.int .i64 2)), none⟩,
  ⟨some 98, .mv (.t 99), none⟩])
 (.cond (.t 98) (.seq (.ops [⟨some 100, .mv (.t 5), none⟩,
  ⟨some 101, .call 53 [(.t 100)], none⟩,
  ⟨some 6, .mv (.t 101), none⟩])
 (.seq (.seq (.ops [⟨some 12, .mv (.k (.int .i64 0)), none⟩])
 (.block 9 (.loop [1, 2, 6, 12] (.seq (.seq (.ops [⟨some 102, .mv (.t 12), none⟩,
  ⟨some 103, .fa 5 1 false (.t 2), none⟩,
  ⟨some 104, .ldi 1 false (.t 103), none⟩,
  ⟨some 105, .len (.t 104), none⟩,
  ⟨some 106, .bin .lss (.t 102) (.t 105), none⟩])
 (.cond (.t 106) .skip (.exit 9)))
 (.seq (.block 10 (.ops [⟨some 109, .mv (.t 6), none⟩,
  ⟨some 110, .fa 5 1 false (.t 2), none⟩,
  ⟨some 111, .ldi 1 false (.t 110), none⟩,
  ⟨some 112, .mv (.t 12), none⟩,
  ⟨some 113, .ix 6 (.t 111) (.t 112), none⟩,
  ⟨some 114, .ld 6 true (.t 113), none⟩,
  ⟨some 115, .mv (.t 1), none⟩,
  ⟨some 116, .call 31 [(.t 114), (.t 115)], none⟩,
  ⟨some 117, .call 52 [(.t 109), (.t 116)], none⟩,
  ⟨some 6, .mv (.t 117), none⟩]))
 (.ops [⟨some 107, .mv (.t 12), none⟩,
  ⟨some 108, .bin .add (.t 107) (.k (.int .i64 1)), none⟩,
  ⟨some 12, .mv (.t 108), none⟩]))))))
 (.seq (.ops [⟨some 118, .mv (.t 6), none⟩,
  ⟨some 4, .mv (.t 118), none⟩])
 (.seq (.ops [⟨none, .frz (.sl (.sl .no)) 4, none⟩]) .ret)))) .skip))))))))
 (.seq (.ops [⟨some 119, .fa 5 1 false (.t 2), none⟩,
  ⟨some 120, .ldi 1 false (.t 119), none⟩,
  ⟨some 121, .ix 6 (.t 120) (.k (.int .i64 0)), none⟩,
  ⟨some 122, .ld 6 true (.t 121), none⟩,
  ⟨some 123, .mv (.t 1), none⟩,
  ⟨some 124, .call 31 [(.t 122), (.t 123)], none⟩,
  ⟨some 13, .mv (.t 124), none⟩])
 (.seq (.seq (.ops [⟨some 125, .fa 0 1 false (.t 2), none⟩,
  ⟨some 126, .ldi 1 false (.t 125), none⟩,
  ⟨some 127, .bin .eql (.t 126) (.k (.int .i64 6)), none⟩])
 (.cond (.t 127) (.seq (.seq (.ops [⟨some 14, .mv (.k (.int .i64 0)), none⟩])
 (.block 11 (.loop [5, 13, 14] (.seq (.seq (.ops [⟨some 128, .mv (.t 14), none⟩,
  ⟨some 129, .mv (.t 5), none⟩,
  ⟨some 130, .bin .lss (.t 128) (.t 129), none⟩])
 (.cond (.t 130) .skip (.exit 11)))
 (.seq (.block 12 (.ops [⟨some 133, .mv (.t 13), none⟩,
  ⟨some 134, .mv (.t 14), none⟩,
  ⟨some 135, .ix 1 (.t 133) (.t 134), none⟩,
  ⟨some 136, .ld 1 false (.t 135), none⟩,
  ⟨some 137, .mv (.t 14), none⟩,
  ⟨some 138, .ix 1 (.t 136) (.t 137), none⟩,
  ⟨none, .st 1 (.t 138) (.k (.bool true)), none⟩]))
 (.ops [⟨some 131, .mv (.t 14), none⟩,
  ⟨some 132, .bin .add (.t 131) (.k (.int .i64 1)), none⟩,
  ⟨some 14, .mv (.t 132), none⟩]))))))
 (.seq (.ops [⟨some 139, .mv (.t 13), none⟩,
  ⟨some 4, .mv (.t 139), none⟩])
 (.seq (.ops [⟨none, .frz (.sl (.sl .no)) 4, none⟩]) .ret))) .skip))
 (.seq (.ops [⟨some 140, .mv (.t 5), none⟩,
  ⟨some 141, .call 53 [(.t 140)], none⟩,
  ⟨some 6, .mv (.t 141), none⟩])
 (.seq (.seq (.ops [⟨some 15, .mv (.k (.int .i64 0)), none⟩])
 (.block 13 (.loop [2, 5, 6, 13, 15, 159, 160, 161, 162, 163, 164, 165, 182, 183, 184, 185, 186, 187, 188] (.seq (.seq (.ops [⟨some 142, .mv (.t 15), none⟩,
  ⟨some 143, .mv (.t 5), none⟩,
  ⟨some 144, .bin .lss (.t 142) (.t 143), none⟩])
 (.cond (.t 144) .skip (.exit 13)))
 (.seq (.block 14 (.seq (.ops [⟨some 147, .mv (.t 15), none⟩,
  ⟨some 16, .mv (.t 147), none⟩])
 (.block 15 (.loop [2, 5, 6, 13, 15, 16, 159, 160, 161, 162, 163, 164, 165, 182, 183, 184, 185, 186, 187, 188] (.seq (.seq (.ops [⟨some 148, .mv (.t 16), none⟩,
  ⟨some 149, .mv (.t 5), none⟩,
  ⟨some 150, .bin .lss (.t 148) (.t 149), none⟩])
 (.cond (.t 150) .skip (.exit 15)))
 (.seq (.block 16 (.seq (.ops [⟨some 153, .mv (.t 16), none⟩,
  ⟨some 154, .bin .add (.t 153) (.k (.int .i64 1)), none⟩,
  ⟨some 17, .mv (.t 154), none⟩])
 (.block 17 (.loop [2, 5, 6, 13, 15, 16, 17, 159, 160, 161, 162, 163, 164, 165, 182, 183, 184, 185, 186, 187, 188] (.seq (.seq (.ops [⟨some 155, .mv (.t 17), none⟩,
  ⟨some 156, .mv (.t 5), none⟩,
  ⟨some 157, .bin .lss (.t 155) (.t 156), none⟩,
  ⟨some 158, .mv (.t 157), none⟩,
  ⟨some 159, .mv (.t 6), some (158, true)⟩,
  ⟨some 160, .mv (.t 15), some (158, true)⟩,
  ⟨some 161, .ix 1 (.t 159) (.t 160), some (158, true)⟩,
  ⟨some 162, .ld 1 false (.t 161), some (158, true)⟩,
  ⟨some 163, .mv (.t 16), some (158, true)⟩,
  ⟨some 164, .ix 1 (.t 162) (.t 163), some (158, true)⟩,
  ⟨some 165, .ld 1 false (.t 164), some (158, true)⟩,
  ⟨some 166, .pick (.t 158) (.t 165) (.k (.bool false)), none⟩])
 (.cond (.t 166) .skip (.exit 17)))
 (.seq (.block 18 (.dops [⟨some 169, .mv (.t 6), none⟩,
  ⟨some 170, .mv (.t 15), none⟩,
  ⟨some 171, .ix 1 (.t 169) (.t 170), none⟩,
  ⟨some 172, .ld 1 false (.t 171), none⟩,
  ⟨some 173, .mv (.t 17), none⟩,
  ⟨some 174, .mv (.t 6), none⟩,
  ⟨some 175, .mv (.t 15), none⟩,
  ⟨some 176, .ix 1 (.t 174) (.t 175), none⟩,
  ⟨some 177, .ld 1 false (.t 176), none⟩,
  ⟨some 178, .mv (.t 17), none⟩,
  ⟨some 179, .ix 1 (.t 177) (.t 178), none⟩,
  ⟨some 180, .ld 1 false (.t 179), none⟩,
  ⟨some 181, .mv (.t 180), none⟩,
  ⟨some 182, .mv (.t 13), some (181, false)⟩,
  ⟨some 183, .mv (.t 16), some (181, false)⟩,
  ⟨some 184, .ix 1 (.t 182) (.t 183), some (181, false)⟩,
  ⟨some 185, .ld 1 false (.t 184), some (181, false)⟩,
  ⟨some 186, .mv (.t 17), some (181, false)⟩,
  ⟨some 187, .ix 1 (.t 185) (.t 186), some (181, false)⟩,
  ⟨some 188, .ld 1 false (.t 187), some (181, false)⟩,
  ⟨some 189, .pick (.t 181) (.k (.bool true)) (.t 188), none⟩,
  ⟨some 190, .ix 1 (.t 172) (.t 173), none⟩,
  ⟨none, .st 1 (.t 190) (.t 189), none⟩]))
 (.ops [⟨some 167, .mv (.t 17), none⟩,
  ⟨some 168, .bin .add (.t 167) (.k (.int .i64 1)), none⟩,
  ⟨some 17, .mv (.t 168), none⟩])))))))
 (.ops [⟨some 151, .mv (.t 16), none⟩,
  ⟨some 152, .bin .add (.t 151) (.k (.int .i64 1)), none⟩,
  ⟨some 16, .mv (.t 152), none⟩])))))))
 (.ops [⟨some 145, .mv (.t 15), none⟩,
  ⟨some 146, .bin .add (.t 145) (.k (.int .i64 1)), none⟩,
  ⟨some 15, .mv (.t 146), none⟩]))))))
 (.seq (.seq (.ops [⟨some 191, .fa 0 1 false (.t 2), none⟩,
  ⟨some 192, .ldi 1 false (.t 191), none⟩,
  ⟨some 193, .bin .eql (.t 192) (.k (.int .i64 5)), none⟩])
 (.cond (.t 193) (.seq (.ops [⟨some 194, .mv (.t 13), none⟩,
  ⟨some 195, .mv (.t 6), none⟩,
  ⟨some 196, .call 52 [(.t 194), (.t 195)], none⟩,
  ⟨some 4, .mv (.t 196), none⟩])
 (.seq (.ops [⟨none, .frz (.sl (.sl .no)) 4, none⟩]) .ret)) .skip))
 (.seq (.ops [⟨some 197, .mv (.t 6), none⟩,
  ⟨some 4, .mv (.t 197), none⟩])
 (.seq (.ops [⟨none, .frz (.sl (.sl .no)) 4, none⟩]) .ret))))))))))), [.tmp 4], true⟩
/-- eyot/eyotref8.table -/
def a32 : AFn := ⟨1, (.seq (.ops [⟨some 2, .mv (.k (.list true [])), none⟩])
 (.seq (.ops [⟨some 5, .mv (.t 0), none⟩,
  ⟨some 6, .mks 1 (.list true []) (.t 5), none⟩,
  ⟨some 3, .mv (.t 6), none⟩])
 (.seq (.seq (.ops [⟨some 4, .mv (.k (.int .i64 0)), none⟩])
 (.block 0 (.loop [0, 3, 4] (.seq (.seq (.ops [⟨some 7, .mv (.t 4), none⟩,
  ⟨some 8, .mv (.t 0), none⟩,
  ⟨some 9, .bin .lss (.t 7) (.t 8), none⟩])
 (.cond (.t 9) .skip (.exit 0)))
 (.seq (.block 1 (.ops [⟨some 12, .mv (.t 3), none⟩,
  ⟨some 13, .mv (.t 4), none⟩,
  ⟨some 14, .mv (.t 0), none⟩,
  ⟨some 15, .mks 1 (.bool false) (.t 14), none⟩,
  ⟨some 16, .ix 1 (.t 12) (.t 13), none⟩,
  ⟨none, .st 1 (.t 16) (.t 15), none⟩]))
 (.ops [⟨some 10, .mv (.t 4), none⟩,
  ⟨some 11, .bin .add (.t 10) (.k (.int .i64 1)), none⟩,
  ⟨some 4, .mv (.t 11), none⟩]))))))
 (.seq (.ops [⟨some 17, .mv (.t 3), none⟩,
  ⟨some 2, .mv (.t 17), none⟩])
 (.seq (.ops [⟨none, .frz (.sl (.sl .no)) 2, none⟩]) .ret))))), [.tmp 2], true⟩
/-- eyot/regex.May -/
def a33 : AFn := ⟨1, (.seq (.ops [⟨some 1, .bim 6 (.t 0), none⟩,
  ⟨some 2, .mv (.k (.int .i64 0)), none⟩])
 (.seq (.seq (.ops [⟨some 5, .ldi 6 true (.t 1), none⟩,
  ⟨some 6, .call 34 [(.t 5)], none⟩,
  ⟨some 7, .un .not (.t 6), none⟩])
 (.cond (.t 7) (.seq (.ops [⟨some 2, .mv (.k (.int .i64 2)), none⟩])
 .ret) .skip))
 (.seq (.seq (.ops [⟨some 9, .ldi 6 true (.t 1), none⟩,
  ⟨some 10, .call 35 [(.t 9)], none⟩,
  ⟨some 8, .mv (.t 10), none⟩,
  ⟨some 11, .ext 0 (.t 8), none⟩,
  ⟨some 12, .ext 1 (.t 8), none⟩,
  ⟨some 3, .mv (.t 11), none⟩,
  ⟨some 4, .mv (.t 12), none⟩])
 (.seq (.ops [⟨some 13, .mv (.t 3), none⟩,
  ⟨some 14, .bin .gtr (.t 13) (.k (.int .i64 40)), none⟩,
  ⟨some 15, .mv (.t 14), none⟩,
  ⟨some 16, .mv (.t 4), some (15, false)⟩,
  ⟨some 17, .bin .gtr (.t 16) (.k (.int .i64 12)), some (15, false)⟩,
  ⟨some 18, .pick (.t 15) (.k (.bool true)) (.t 17), none⟩])
 (.cond (.t 18) (.seq (.ops [⟨some 2, .mv (.k (.int .i64 6)), none⟩])
 .ret) .skip)))
 (.seq (.ops [⟨some 2, .mv (.k (.int .i64 0)), none⟩])
 .ret)))), [.tmp 2], true⟩
/-- eyot/regex.formed -/
def a34 : AFn := ⟨1, (.seq (.ops [⟨some 1, .bim 6 (.t 0), none⟩,
  ⟨some 2, .mv (.k (.bool false)), none⟩])
 (.seq (.block 0 (.seq (.ops [⟨some 6, .fa 0 1 false (.t 1), none⟩,
  ⟨some 7, .ldi 1 false (.t 6), none⟩,
  ⟨some 8, .bin .eql (.t 7) (.k (.int .i64 1)), none⟩,
  ⟨some 5, .mv (.t 8), none⟩])
 (.cond (.t 5) (.seq (.ops [⟨some 9, .fa 5 1 false (.t 1), none⟩,
  ⟨some 10, .ldi 1 false (.t 9), none⟩,
  ⟨some 11, .len (.t 10), none⟩,
  ⟨some 12, .bin .eql (.t 11) (.k (.int .i64 0)), none⟩,
  ⟨some 13, .mv (.t 12), none⟩,
  ⟨some 14, .fa 1 4 true (.t 1), some (13, true)⟩,
  ⟨some 15, .ldi 4 true (.t 14), some (13, true)⟩,
  ⟨some 16, .bld (.agg ([.int .u64 0, .int .u64 0, .int .u64 0, .int .u64 0])) [], some (13, true)⟩,
  ⟨some 17, .eq true (.agg [.i, .i, .i, .i]) (.t 15) (.t 16), some (13, true)⟩,
  ⟨some 18, .pick (.t 13) (.t 17) (.k (.bool false)), none⟩,
  ⟨some 2, .mv (.t 18), none⟩])
 .ret) (.seq (.ops [⟨some 20, .fa 1 4 true (.t 1), none⟩,
  ⟨some 21, .ldi 4 true (.t 20), none⟩,
  ⟨some 22, .bld (.agg ([.int .u64 0, .int .u64 0, .int .u64 0, .int .u64 0])) [], none⟩,
  ⟨some 23, .eq true (.agg [.i, .i, .i, .i]) (.t 21) (.t 22), none⟩,
  ⟨some 19, .mv (.t 23), none⟩])
 (.cond (.t 19) (.seq (.ops [⟨some 2, .mv (.k (.bool false)), none⟩])
 .ret) (.seq (.seq (.ops [⟨some 25, .fa 0 1 false (.t 1), none⟩,
  ⟨some 26, .ldi 1 false (.t 25), none⟩,
  ⟨some 27, .bin .eql (.t 26) (.k (.int .i64 2)), none⟩,
  ⟨some 24, .mv (.t 27), none⟩])
 (.cond (.t 24) .skip (.ops [⟨some 28, .fa 0 1 false (.t 1), none⟩,
  ⟨some 29, .ldi 1 false (.t 28), none⟩,
  ⟨some 30, .bin .eql (.t 29) (.k (.int .i64 3)), none⟩,
  ⟨some 24, .mv (.t 30), none⟩])))
 (.cond (.t 24) (.seq (.ops [⟨some 31, .fa 5 1 false (.t 1), none⟩,
  ⟨some 32, .ldi 1 false (.t 31), none⟩,
  ⟨some 33, .len (.t 32), none⟩,
  ⟨some 34, .bin .lss (.t 33) (.k (.int .i64 2)), none⟩])
 (.cond (.t 34) (.seq (.ops [⟨some 2, .mv (.k (.bool false)), none⟩])
 .ret) .skip)) (.seq (.ops [⟨some 36, .fa 0 1 false (.t 1), none⟩,
  ⟨some 37, .ldi 1 false (.t 36), none⟩,
  ⟨some 38, .call 36 [(.t 37)], none⟩,
  ⟨some 35, .mv (.t 38), none⟩])
 (.cond (.t 35) (.seq (.ops [⟨some 39, .fa 5 1 false (.t 1), none⟩,
  ⟨some 40, .ldi 1 false (.t 39), none⟩,
  ⟨some 41, .len (.t 40), none⟩,
  ⟨some 42, .bin .neq (.t 41) (.k (.int .i64 1)), none⟩,
  ⟨some 43, .mv (.t 42), none⟩,
  ⟨some 44, .fa 5 1 false (.t 1), some (43, false)⟩,
  ⟨some 45, .ldi 1 false (.t 44), some (43, false)⟩,
  ⟨some 46, .ix 6 (.t 45) (.k (.int .i64 0)), some (43, false)⟩,
  ⟨some 47, .fa 0 1 false (.t 46), some (43, false)⟩,
  ⟨some 48, .ld 1 false (.t 47), some (43, false)⟩,
  ⟨some 49, .call 36 [(.t 48)], some (43, false)⟩,
  ⟨some 50, .pick (.t 43) (.k (.bool true)) (.t 49), none⟩])
 (.cond (.t 50) (.seq (.ops [⟨some 2, .mv (.k (.bool false)), none⟩])
 .ret) .skip)) (.seq (.ops [⟨some 2, .mv (.k (.bool false)), none⟩])
 .ret))))))))))
 (.seq (.seq (.ops [⟨some 51, .fa 5 1 false (.t 1), none⟩,
  ⟨some 52, .ldi 1 false (.t 51), none⟩,
  ⟨some 53, .len (.t 52), none⟩,
  ⟨some 54, .mv (.k (.int .i64 0)), none⟩])
 (.block 1 (.loop [1, 52, 53, 54, 64, 65, 66] (.seq (.ops [⟨some 55, .bin .lss (.t 54) (.t 53), none⟩])
 (.seq (.cond (.t 55) .skip (.exit 1))
 (.seq (.block 2 (.seq (.ops [⟨some 56, .ix 6 (.t 52) (.t 54), none⟩,
  ⟨some 57, .ld 6 true (.t 56), none⟩,
  ⟨some 4, .alv ([.int .i64 0, .int .u64 0, .int .u64 0, .int .u64 0, .int .u64 0, .list true []]), none⟩,
  ⟨none, .st 6 (.t 4) (.t 57), none⟩])
 (.seq (.ops [⟨some 58, .fa 0 1 false (.t 4), none⟩,
  ⟨some 59, .ldp 1 false (.t 58), none⟩,
  ⟨some 60, .fa 0 1 false (.t 1), none⟩,
  ⟨some 61, .ldi 1 false (.t 60), none⟩,
  ⟨some 62, .bin .eql (.t 59) (.t 61), none⟩,
  ⟨some 63, .mv (.t 62), none⟩,
  ⟨some 64, .ldl 6 true 4, some (63, false)⟩,
  ⟨some 65, .call 34 [(.t 64)], some (63, false)⟩,
  ⟨some 66, .un .not (.t 65), some (63, false)⟩,
  ⟨some 67, .pick (.t 63) (.k (.bool true)) (.t 66), none⟩])
 (.cond (.t 67) (.seq (.ops [⟨some 2, .mv (.k (.bool false)), none⟩])
 .ret) .skip))))
 (.ops [⟨some 68, .bin .add (.t 54) (.k (.int .i64 1)), none⟩,
  ⟨some 54, .mv (.t 68), none⟩])))))))
 (.seq (.ops [⟨some 2, .mv (.k (.bool true)), none⟩])
 .ret)))), [.tmp 2], true⟩
/-- eyot/regex.size -/
def a35 : AFn := ⟨1, (.seq (.ops [⟨some 1, .bim 6 (.t 0), none⟩,
  ⟨some 2, .mv (.k (.int .i64 0)), none⟩,
  ⟨some 3, .mv (.k (.int .i64 0)), none⟩])
 (.seq (.seq (.ops [⟨some 8, .fa 5 1 false (.t 1), none⟩,
  ⟨some 9, .ldi 1 false (.t 8), none⟩,
  ⟨some 10, .len (.t 9), none⟩,
  ⟨some 11, .mv (.k (.int .i64 0)), none⟩])
 (.block 0 (.loop [2, 3, 9, 10, 11] (.seq (.ops [⟨some 12, .bin .lss (.t 11) (.t 10), none⟩])
 (.seq (.cond (.t 12) .skip (.exit 0))
 (.seq (.block 1 (.seq (.ops [⟨some 13, .ix 6 (.t 9) (.t 11), none⟩,
  ⟨some 14, .ld 6 true (.t 13), none⟩,
  ⟨some 5, .alv ([.int .i64 0, .int .u64 0, .int .u64 0, .int .u64 0, .int .u64 0, .list true []]), none⟩,
  ⟨none, .st 6 (.t 5) (.t 14), none⟩])
 (.seq (.ops [⟨some 16, .ldl 6 true 5, none⟩,
  ⟨some 17, .call 35 [(.t 16)], none⟩,
  ⟨some 15, .mv (.t 17), none⟩,
  ⟨some 18, .ext 0 (.t 15), none⟩,
  ⟨some 19, .ext 1 (.t 15), none⟩,
  ⟨some 6, .mv (.t 18), none⟩,
  ⟨some 7, .mv (.t 19), none⟩])
 (.ops [⟨some 20, .mv (.t 2), none⟩,
  ⟨some 21, .mv (.t 6), none⟩,
  ⟨some 22, .bin .add (.t 20) (.t 21), none⟩,
  ⟨some 23, .mv (.t 3), none⟩,
  ⟨some 24, .mv (.t 7), none⟩,
  ⟨some 25, .mnmx true (.t 23) (.t 24), none⟩,
  ⟨some 2, .mv (.t 22), none⟩,
  ⟨some 3, .mv (.t 25), none⟩]))))
 (.ops [⟨some 26, .bin .add (.t 11) (.k (.int .i64 1)), none⟩,
  ⟨some 11, .mv (.t 26), none⟩])))))))
 (.seq (.ops [⟨some 27, .mv (.t 2), none⟩,
  ⟨some 28, .bin .add (.t 27) (.k (.int .i64 1)), none⟩,
  ⟨some 29, .mv (.t 3), none⟩,
  ⟨some 30, .bin .add (.t 29) (.k (.int .i64 1)), none⟩,
  ⟨some 2, .mv (.t 28), none⟩,
  ⟨some 3, .mv (.t 30), none⟩])
 .ret))), [.tmp 2, .tmp 3], true⟩
/-- eyot/regex.sign -/
def a36 : AFn := ⟨1, (.seq (.ops [⟨some 2, .mv (.k (.bool false)), none⟩])
 (.seq (.ops [⟨some 3, .mv (.t 0), none⟩,
  ⟨some 4, .bin .geq (.t 3) (.k (.int .i64 4)), none⟩,
  ⟨some 5, .mv (.t 4), none⟩,
  ⟨some 6, .mv (.t 0), some (5, true)⟩,
  ⟨some 7, .bin .leq (.t 6) (.k (.int .i64 6)), some (5, true)⟩,
  ⟨some 8, .pick (.t 5) (.t 7) (.k (.bool false)), none⟩,
  ⟨some 2, .mv (.t 8), none⟩])
 .ret)), [.tmp 2], true⟩
/-- math/bits.Len64 -/
def a37 : AFn := ⟨1, (.seq (.ops [⟨some 2, .mv (.k (.int .i64 0)), none⟩])
 (.seq (.seq (.ops [⟨some 3, .mv (.t 0), none⟩,
  ⟨some 4, .bin .geq (.t 3) (.k (.int .u64 4294967296)), none⟩])
 (.cond (.t 4) (.seq (.ops [⟨some 5, .mv (.t 0), none⟩,
  ⟨some 6, .bin .shr (.t 5) (.k (.int .u64 32)), none⟩,
  ⟨some 0, .mv (.t 6), none⟩])
 (.ops [⟨some 2, .mv (.k (.int .i64 32)), none⟩])) .skip))
 (.seq (.seq (.ops [⟨some 7, .mv (.t 0), none⟩,
  ⟨some 8, .bin .geq (.t 7) (.k (.int .u64 65536)), none⟩])
 (.cond (.t 8) (.seq (.ops [⟨some 9, .mv (.t 0), none⟩,
  ⟨some 10, .bin .shr (.t 9) (.k (.int .u64 16)), none⟩,
  ⟨some 0, .mv (.t 10), none⟩])
 (.ops [⟨some 11, .mv (.t 2), none⟩,
  ⟨some 12, .bin .add (.t 11) (.k (.int .i64 16)), none⟩,
  ⟨some 2, .mv (.t 12), none⟩])) .skip))
 (.seq (.seq (.ops [⟨some 13, .mv (.t 0), none⟩,
  ⟨some 14, .bin .geq (.t 13) (.k (.int .u64 256)), none⟩])
 (.cond (.t 14) (.seq (.ops [⟨some 15, .mv (.t 0), none⟩,
  ⟨some 16, .bin .shr (.t 15) (.k (.int .u64 8)), none⟩,
  ⟨some 0, .mv (.t 16), none⟩])
 (.ops [⟨some 17, .mv (.t 2), none⟩,
  ⟨some 18, .bin .add (.t 17) (.k (.int .i64 8)), none⟩,
  ⟨some 2, .mv (.t 18), none⟩])) .skip))
 (.seq (.ops [⟨some 19, .mv (.t 2), none⟩,
  ⟨some 20, .mv (.t 0), none⟩,
  ⟨some 21, .cvi .u8 (.t 20), none⟩,
  ⟨some 22, .ixs (.k (.str [0, 1, 2, 2, 3, 3, 3, 3, 4, 4, 4, 4, 4, 4, 4, 4, 5, 5, 5, 5, 5, 5, 5, 5, 5, 5, 5, 5, 5, 5, 5, 5, 6, 6, 6, 6, 6, 6, 6, 6, 6, 6, 6, 6, 6, 6, 6, 6, 6, 6, 6, 6, 6, 6, 6, 6, 6, 6, 6, 6, 6, 6, 6, 6, 7, 7, 7, 7, 7, 7, 7, 7, 7, 7, 7, 7, 7, 7, 7, 7, 7, 7, 7, 7, 7, 7, 7, 7, 7, 7, 7, 7, 7, 7, 7, 7, 7, 7, 7, 7, 7, 7, 7, 7, 7, 7, 7, 7, 7, 7, 7, 7, 7, 7, 7, 7, 7, 7, 7, 7, 7, 7, 7, 7, 7, 7, 7, 7, 8, 8, 8, 8, 8, 8, 8, 8, 8, 8, 8, 8, 8, 8, 8, 8, 8, 8, 8, 8, 8, 8, 8, 8, 8, 8, 8, 8, 8, 8, 8, 8, 8, 8, 8, 8, 8, 8, 8, 8, 8, 8, 8, 8, 8, 8, 8, 8, 8, 8, 8, 8, 8, 8, 8, 8, 8, 8, 8, 8, 8, 8, 8, 8, 8, 8, 8, 8, 8, 8, 8, 8, 8, 8, 8, 8, 8, 8, 8, 8, 8, 8, 8, 8, 8, 8, 8, 8, 8, 8, 8, 8, 8, 8, 8, 8, 8, 8, 8, 8, 8, 8, 8, 8, 8, 8, 8, 8, 8, 8, 8, 8, 8, 8, 8, 8, 8, 8, 8, 8, 8, 8, 8, 8, 8, 8, 8, 8])) (.t 21), none⟩,
  ⟨some 23, .cvi .i64 (.t 22), none⟩,
  ⟨some 24, .bin .add (.t 19) (.t 23), none⟩,
  ⟨some 2, .mv (.t 24), none⟩])
 .ret))))), [.tmp 2], true⟩
/-- math/bits.Len -/
def a38 : AFn := ⟨1, (.seq (.ops [⟨some 2, .mv (.k (.int .i64 0)), none⟩])
 (.seq (.cond (.k (.bool false)) (.seq (.ops [⟨some 3, .mv (.t 0), none⟩,
  ⟨some 4, .cvi .u32 (.t 3), none⟩,
  ⟨some 5, .call 54 [(.t 4)], none⟩,
  ⟨some 2, .mv (.t 5), none⟩])
 .ret) .skip)
 (.seq (.ops [⟨some 6, .mv (.t 0), none⟩,
  ⟨some 7, .call 37 [(.t 6)], none⟩,
  ⟨some 2, .mv (.t 7), none⟩])
 .ret))), [.tmp 2], true⟩
/-- slices.Index[[]int,int] -/
def a39 : AFn := ⟨2, (.seq (.ops [⟨some 4, .mv (.k (.int .i64 0)), none⟩])
 (.seq (.seq (.ops [⟨some 6, .mv (.t 0), none⟩,
  ⟨some 7, .len (.t 6), none⟩,
  ⟨some 8, .mv (.k (.int .i64 0)), none⟩])
 (.block 0 (.loop [0, 1, 7, 8] (.seq (.ops [⟨some 9, .bin .lss (.t 8) (.t 7), none⟩])
 (.seq (.cond (.t 9) .skip (.exit 0))
 (.seq (.block 1 (.seq (.ops [⟨some 10, .mv (.t 8), none⟩,
  ⟨some 5, .mv (.t 10), none⟩])
 (.seq (.ops [⟨some 11, .mv (.t 1), none⟩,
  ⟨some 12, .mv (.t 0), none⟩,
  ⟨some 13, .mv (.t 5), none⟩,
  ⟨some 14, .ix 1 (.t 12) (.t 13), none⟩,
  ⟨some 15, .ld 1 false (.t 14), none⟩,
  ⟨some 16, .bin .eql (.t 11) (.t 15), none⟩])
 (.cond (.t 16) (.seq (.ops [⟨some 17, .mv (.t 5), none⟩,
  ⟨some 4, .mv (.t 17), none⟩])
 .ret) .skip))))
 (.ops [⟨some 18, .bin .add (.t 8) (.k (.int .i64 1)), none⟩,
  ⟨some 8, .mv (.t 18), none⟩])))))))
 (.seq (.ops [⟨some 4, .mv (.k (.int .i64 (-1))), none⟩])
 .ret))), [.tmp 4], true⟩
/-- slices.Max[[]int,int] -/
def a40 : AFn := ⟨1, (.seq (.ops [⟨some 2, .mv (.k (.int .i64 0)), none⟩])
 (.seq (.seq (.ops [⟨some 5, .mv (.t 0), none⟩,
  ⟨some 6, .len (.t 5), none⟩,
  ⟨some 7, .bin .lss (.t 6) (.k (.int .i64 1)), none⟩])
 (.cond (.t 7) (.ops [⟨some 8, .mkif 0 (.k (.str [115, 108, 105, 99, 101, 115, 46, 77, 97, 120, 58, 32, 101, 109, 112, 116, 121, 32, 108, 105, 115, 116])), none⟩,
  ⟨none, .pan (.t 8), none⟩]) .skip))
 (.seq (.ops [⟨some 9, .mv (.t 0), none⟩,
  ⟨some 10, .ix 1 (.t 9) (.k (.int .i64 0)), none⟩,
  ⟨some 11, .ld 1 false (.t 10), none⟩,
  ⟨some 3, .mv (.t 11), none⟩])
 (.seq (.seq (.ops [⟨some 4, .mv (.k (.int .i64 1)), none⟩])
 (.block 0 (.loop [0, 3, 4] (.seq (.seq (.ops [⟨some 12, .mv (.t 4), none⟩,
  ⟨some 13, .mv (.t 0), none⟩,
  ⟨some 14, .len (.t 13), none⟩,
  ⟨some 15, .bin .lss (.t 12) (.t 14), none⟩])
 (.cond (.t 15) .skip (.exit 0)))
 (.seq (.block 1 (.ops [⟨some 18, .mv (.t 3), none⟩,
  ⟨some 19, .mv (.t 0), none⟩,
  ⟨some 20, .mv (.t 4), none⟩,
  ⟨some 21, .ix 1 (.t 19) (.t 20), none⟩,
  ⟨some 22, .ld 1 false (.t 21), none⟩,
  ⟨some 23, .mnmx true (.t 18) (.t 22), none⟩,
  ⟨some 3, .mv (.t 23), none⟩]))
 (.ops [⟨some 16, .mv (.t 4), none⟩,
  ⟨some 17, .bin .add (.t 16) (.k (.int .i64 1)), none⟩,
  ⟨some 4, .mv (.t 17), none⟩]))))))
 (.seq (.ops [⟨some 24, .mv (.t 3), none⟩,
  ⟨some 2, .mv (.t 24), none⟩])
 .ret))))), [.tmp 2], true⟩
/-- slices.Max[[]uint8,uint8] -/
def a41 : AFn := ⟨1, (.seq (.ops [⟨some 2, .mv (.k (.int .u8 0)), none⟩])
 (.seq (.seq (.ops [⟨some 5, .mv (.t 0), none⟩,
  ⟨some 6, .len (.t 5), none⟩,
  ⟨some 7, .bin .lss (.t 6) (.k (.int .i64 1)), none⟩])
 (.cond (.t 7) (.ops [⟨some 8, .mkif 0 (.k (.str [115, 108, 105, 99, 101, 115, 46, 77, 97, 120, 58, 32, 101, 109, 112, 116, 121, 32, 108, 105, 115, 116])), none⟩,
  ⟨none, .pan (.t 8), none⟩]) .skip))
 (.seq (.ops [⟨some 9, .mv (.t 0), none⟩,
  ⟨some 10, .ix 1 (.t 9) (.k (.int .i64 0)), none⟩,
  ⟨some 11, .ld 1 false (.t 10), none⟩,
  ⟨some 3, .mv (.t 11), none⟩])
 (.seq (.seq (.ops [⟨some 4, .mv (.k (.int .i64 1)), none⟩])
 (.block 0 (.loop [0, 3, 4] (.seq (.seq (.ops [⟨some 12, .mv (.t 4), none⟩,
  ⟨some 13, .mv (.t 0), none⟩,
  ⟨some 14, .len (.t 13), none⟩,
  ⟨some 15, .bin .lss (.t 12) (.t 14), none⟩])
 (.cond (.t 15) .skip (.exit 0)))
 (.seq (.block 1 (.ops [⟨some 18, .mv (.t 3), none⟩,
  ⟨some 19, .mv (.t 0), none⟩,
  ⟨some 20, .mv (.t 4), none⟩,
  ⟨some 21, .ix 1 (.t 19) (.t 20), none⟩,
  ⟨some 22, .ld 1 false (.t 21), none⟩,
  ⟨some 23, .mnmx true (.t 18) (.t 22), none⟩,
  ⟨some 3, .mv (.t 23), none⟩]))
 (.ops [⟨some 16, .mv (.t 4), none⟩,
  ⟨some 17, .bin .add (.t 16) (.k (.int .i64 1)), none⟩,
  ⟨some 4, .mv (.t 17), none⟩]))))))
 (.seq (.ops [⟨some 24, .mv (.t 3), none⟩,
  ⟨some 2, .mv (.t 24), none⟩])
 .ret))))), [.tmp 2], true⟩
/-- slices.Min[[]int,int] -/
def a42 : AFn := ⟨1, (.seq (.ops [⟨some 2, .mv (.k (.int .i64 0)), none⟩])
 (.seq (.seq (.ops [⟨some 5, .mv (.t 0), none⟩,
  ⟨some 6, .len (.t 5), none⟩,
  ⟨some 7, .bin .lss (.t 6) (.k (.int .i64 1)), none⟩])
 (.cond (.t 7) (.ops [⟨some 8, .mkif 0 (.k (.str [115, 108, 105, 99, 101, 115, 46, 77, 105, 110, 58, 32, 101, 109, 112, 116, 121, 32, 108, 105, 115, 116])), none⟩,
  ⟨none, .pan (.t 8), none⟩]) .skip))
 (.seq (.ops [⟨some 9, .mv (.t 0), none⟩,
  ⟨some 10, .ix 1 (.t 9) (.k (.int .i64 0)), none⟩,
  ⟨some 11, .ld 1 false (.t 10), none⟩,
  ⟨some 3, .mv (.t 11), none⟩])
 (.seq (.seq (.ops [⟨some 4, .mv (.k (.int .i64 1)), none⟩])
 (.block 0 (.loop [0, 3, 4] (.seq (.seq (.ops [⟨some 12, .mv (.t 4), none⟩,
  ⟨some 13, .mv (.t 0), none⟩,
  ⟨some 14, .len (.t 13), none⟩,
  ⟨some 15, .bin .lss (.t 12) (.t 14), none⟩])
 (.cond (.t 15) .skip (.exit 0)))
 (.seq (.block 1 (.ops [⟨some 18, .mv (.t 3), none⟩,
  ⟨some 19, .mv (.t 0), none⟩,
  ⟨some 20, .mv (.t 4), none⟩,
  ⟨some 21, .ix 1 (.t 19) (.t 20), none⟩,
  ⟨some 22, .ld 1 false (.t 21), none⟩,
  ⟨some 23, .mnmx false (.t 18) (.t 22), none⟩,
  ⟨some 3, .mv (.t 23), none⟩]))
 (.ops [⟨some 16, .mv (.t 4), none⟩,
  ⟨some 17, .bin .add (.t 16) (.k (.int .i64 1)), none⟩,
  ⟨some 4, .mv (.t 17), none⟩]))))))
 (.seq (.ops [⟨some 24, .mv (.t 3), none⟩,
  ⟨some 2, .mv (.t 24), none⟩])
 .ret))))), [.tmp 2], true⟩
/-- slices.pdqsortCmpFunc[eyot/dfa.spot] -/
def a43 : AFn := ⟨5, (.seq (.ops [⟨some 10, .mv (.k (.bool true)), none⟩])
 (.seq (.ops [⟨some 11, .mv (.k (.bool true)), none⟩])
 (.block 0 (.loop [0, 1, 2, 3, 4, 10, 11, 70, 73, 74, 84, 85, 86, 87, 88, 89, 90, 91, 92, 93, 94, 95, 96] (.block 1 (.seq (.ops [⟨some 21, .mv (.t 2), none⟩,
  ⟨some 22, .mv (.t 1), none⟩,
  ⟨some 23, .bin .sub (.t 21) (.t 22), none⟩,
  ⟨some 12, .mv (.t 23), none⟩])
 (.seq (.seq (.ops [⟨some 24, .mv (.t 12), none⟩,
  ⟨some 25, .bin .leq (.t 24) (.k (.int .i64 12)), none⟩])
 (.cond (.t 25) (.seq (.ops [⟨some 26, .mv (.t 0), none⟩,
  ⟨some 27, .mv (.t 1), none⟩,
  ⟨some 28, .mv (.t 2), none⟩,
  ⟨some 29, .mv (.t 4), none⟩,
  ⟨some 30, .call 44 [(.t 26), (.t 27), (.t 28), (.t 29)], none⟩])
 .ret) .skip))
 (.seq (.seq (.ops [⟨some 31, .mv (.t 3), none⟩,
  ⟨some 32, .bin .eql (.t 31) (.k (.int .i64 0)), none⟩])
 (.cond (.t 32) (.seq (.ops [⟨some 33, .mv (.t 0), none⟩,
  ⟨some 34, .mv (.t 1), none⟩,
  ⟨some 35, .mv (.t 2), none⟩,
  ⟨some 36, .mv (.t 4), none⟩,
  ⟨some 37, .call 57 [(.t 33), (.t 34), (.t 35), (.t 36)], none⟩])
 .ret) .skip))
 (.seq (.seq (.ops [⟨some 38, .mv (.t 10), none⟩,
  ⟨some 39, .un .not (.t 38), none⟩])
 (.cond (.t 39) (.seq (.ops [⟨some 40, .mv (.t 0), none⟩,
  ⟨some 41, .mv (.t 1), none⟩,
  ⟨some 42, .mv (.t 2), none⟩,
  ⟨some 43, .mv (.t 4), none⟩,
  ⟨some 44, .call 55 [(.t 40), (.t 41), (.t 42), (.t 43)], none⟩])
 (.ops [⟨some 45, .mv (.t 3), none⟩,
  ⟨some 46, .bin .sub (.t 45) (.k (.int .i64 1)), none⟩,
  ⟨some 3, .mv (.t 46), none⟩])) .skip))
 (.seq (.ops [⟨some 48, .mv (.t 0), none⟩,
  ⟨some 49, .mv (.t 1), none⟩,
  ⟨some 50, .mv (.t 2), none⟩,
  ⟨some 51, .mv (.t 4), none⟩,
  ⟨some 52, .call 56 [(.t 48), (.t 49), (.t 50), (.t 51)], none⟩,
  ⟨some 47, .mv (.t 52), none⟩,
  ⟨some 53, .ext 0 (.t 47), none⟩,
  ⟨some 54, .ext 1 (.t 47), none⟩,
  ⟨some 13, .mv (.t 53), none⟩,
  ⟨some 14, .mv (.t 54), none⟩])
 (.seq (.seq (.ops [⟨some 55, .mv (.t 14), none⟩,
  ⟨some 56, .bin .eql (.t 55) (.k (.int .i64 2)), none⟩])
 (.cond (.t 56) (.seq (.ops [⟨some 57, .mv (.t 0), none⟩,
  ⟨some 58, .mv (.t 1), none⟩,
  ⟨some 59, .mv (.t 2), none⟩,
  ⟨some 60, .mv (.t 4), none⟩,
  ⟨some 61, .call 61 [(.t 57), (.t 58), (.t 59), (.t 60)], none⟩])
 (.seq (.ops [⟨some 62, .mv (.t 2), none⟩,
  ⟨some 63, .bin .sub (.t 62) (.k (.int .i64 1)), none⟩,
  ⟨some 64, .mv (.t 13), none⟩,
  ⟨some 65, .mv (.t 1), none⟩,
  ⟨some 66, .bin .sub (.t 64) (.t 65), none⟩,
  ⟨some 67, .bin .sub (.t 63) (.t 66), none⟩,
  ⟨some 13, .mv (.t 67), none⟩])
 (.ops [⟨some 14, .mv (.k (.int .i64 1)), none⟩]))) .skip))
 (.seq (.seq (.ops [⟨some 68, .mv (.t 10), none⟩,
  ⟨some 69, .mv (.t 68), none⟩,
  ⟨some 70, .mv (.t 11), some (69, true)⟩,
  ⟨some 71, .pick (.t 69) (.t 70) (.k (.bool false)), none⟩,
  ⟨some 72, .mv (.t 71), none⟩,
  ⟨some 73, .mv (.t 14), some (72, true)⟩,
  ⟨some 74, .bin .eql (.t 73) (.k (.int .i64 1)), some (72, true)⟩,
  ⟨some 75, .pick (.t 72) (.t 74) (.k (.bool false)), none⟩])
 (.cond (.t 75) (.seq (.ops [⟨some 76, .mv (.t 0), none⟩,
  ⟨some 77, .mv (.t 1), none⟩,
  ⟨some 78, .mv (.t 2), none⟩,
  ⟨some 79, .mv (.t 4), none⟩,
  ⟨some 80, .call 58 [(.t 76), (.t 77), (.t 78), (.t 79)], none⟩])
 (.cond (.t 80) .ret .skip)) .skip))
 (.seq (.seq (.dops [⟨some 81, .mv (.t 1), none⟩,
  ⟨some 82, .bin .gtr (.t 81) (.k (.int .i64 0)), none⟩,
  ⟨some 83, .mv (.t 82), none⟩,
  ⟨some 84, .mv (.t 4), some (83, true)⟩,
  ⟨some 85, .mv (.t 0), some (83, true)⟩,
  ⟨some 86, .mv (.t 1), some (83, true)⟩,
  ⟨some 87, .bin .sub (.t 86) (.k (.int .i64 1)), some (83, true)⟩,
  ⟨some 88, .ix 2 (.t 85) (.t 87), some (83, true)⟩,
  ⟨some 89, .ld 2 true (.t 88), some (83, true)⟩,
  ⟨some 90, .mv (.t 0), some (83, true)⟩,
  ⟨some 91, .mv (.t 13), some (83, true)⟩,
  ⟨some 92, .ix 2 (.t 90) (.t 91), some (83, true)⟩,
  ⟨some 93, .ld 2 true (.t 92), some (83, true)⟩,
  ⟨some 94, .callv (.t 84) [(.t 89), (.t 93)], some (83, true)⟩,
  ⟨some 95, .bin .lss (.t 94) (.k (.int .i64 0)), some (83, true)⟩,
  ⟨some 96, .un .not (.t 95), some (83, true)⟩,
  ⟨some 97, .pick (.t 83) (.t 96) (.k (.bool false)), none⟩])
 (.cond (.t 97) (.seq (.ops [⟨some 98, .mv (.t 0), none⟩,
  ⟨some 99, .mv (.t 1), none⟩,
  ⟨some 100, .mv (.t 2), none⟩,
  ⟨some 101, .mv (.t 13), none⟩,
  ⟨some 102, .mv (.t 4), none⟩,
  ⟨some 103, .call 60 [(.t 98), (.t 99), (.t 100), (.t 101), (.t 102)], none⟩,
  ⟨some 15, .mv (.t 103), none⟩])
 (.seq (.ops [⟨some 104, .mv (.t 15), none⟩,
  ⟨some 1, .mv (.t 104), none⟩])
 (.exit 1))) .skip))
 (.seq (.ops [⟨some 106, .mv (.t 0), none⟩,
  ⟨some 107, .mv (.t 1), none⟩,
  ⟨some 108, .mv (.t 2), none⟩,
  ⟨some 109, .mv (.t 13), none⟩,
  ⟨some 110, .mv (.t 4), none⟩,
  ⟨some 111, .call 59 [(.t 106), (.t 107), (.t 108), (.t 109), (.t 110)], none⟩,
  ⟨some 105, .mv (.t 111), none⟩,
  ⟨some 112, .ext 0 (.t 105), none⟩,
  ⟨some 113, .ext 1 (.t 105), none⟩,
  ⟨some 16, .mv (.t 112), none⟩,
  ⟨some 17, .mv (.t 113), none⟩])
 (.seq (.ops [⟨some 114, .mv (.t 17), none⟩,
  ⟨some 11, .mv (.t 114), none⟩])
 (.seq (.ops [⟨some 115, .mv (.t 16), none⟩,
  ⟨some 116, .mv (.t 1), none⟩,
  ⟨some 117, .bin .sub (.t 115) (.t 116), none⟩,
  ⟨some 118, .mv (.t 2), none⟩,
  ⟨some 119, .mv (.t 16), none⟩,
  ⟨some 120, .bin .sub (.t 118) (.t 119), none⟩,
  ⟨some 18, .mv (.t 117), none⟩,
  ⟨some 19, .mv (.t 120), none⟩])
 (.seq (.ops [⟨some 121, .mv (.t 12), none⟩,
  ⟨some 122, .bin .quo (.t 121) (.k (.int .i64 8)), none⟩,
  ⟨some 20, .mv (.t 122), none⟩])
 (.seq (.ops [⟨some 123, .mv (.t 18), none⟩,
  ⟨some 124, .mv (.t 19), none⟩,
  ⟨some 125, .bin .lss (.t 123) (.t 124), none⟩])
 (.cond (.t 125) (.seq (.ops [⟨some 126, .mv (.t 18), none⟩,
  ⟨some 127, .mv (.t 20), none⟩,
  ⟨some 128, .bin .geq (.t 126) (.t 127), none⟩,
  ⟨some 10, .mv (.t 128), none⟩])
 (.seq (.ops [⟨some 129, .mv (.t 0), none⟩,
  ⟨some 130, .mv (.t 1), none⟩,
  ⟨some 131, .mv (.t 16), none⟩,
  ⟨some 132, .mv (.t 3), none⟩,
  ⟨some 133, .mv (.t 4), none⟩,
  ⟨some 134, .call 43 [(.t 129), (.t 130), (.t 131), (.t 132), (.t 133)], none⟩])
 (.ops [⟨some 135, .mv (.t 16), none⟩,
  ⟨some 136, .bin .add (.t 135) (.k (.int .i64 1)), none⟩,
  ⟨some 1, .mv (.t 136), none⟩]))) (.seq (.ops [⟨some 137, .mv (.t 19), none⟩,
  ⟨some 138, .mv (.t 20), none⟩,
  ⟨some 139, .bin .geq (.t 137) (.t 138), none⟩,
  ⟨some 10, .mv (.t 139), none⟩])
 (.seq (.ops [⟨some 140, .mv (.t 0), none⟩,
  ⟨some 141, .mv (.t 16), none⟩,
  ⟨some 142, .bin .add (.t 141) (.k (.int .i64 1)), none⟩,
  ⟨some 143, .mv (.t 2), none⟩,
  ⟨some 144, .mv (.t 3), none⟩,
  ⟨some 145, .mv (.t 4), none⟩,
  ⟨some 146, .call 43 [(.t 140), (.t 142), (.t 143), (.t 144), (.t 145)], none⟩])
 (.ops [⟨some 147, .mv (.t 16), none⟩,
  ⟨some 2, .mv (.t 147), none⟩])))))))))))))))))))))), [], false⟩
/-- slices.insertionSortCmpFunc[eyot/dfa.spot] -/
def a44 : AFn := ⟨4, (.seq (.ops [⟨some 10, .mv (.t 1), none⟩,
  ⟨some 11, .bin .add (.t 10) (.k (.int .i64 1)), none⟩,
  ⟨some 8, .mv (.t 11), none⟩])
 (.block 0 (.loop [0, 1, 2, 3, 8, 22, 23, 24, 25, 26, 27, 28, 29, 30, 31, 32, 33] (.seq (.seq (.ops [⟨some 12, .mv (.t 8), none⟩,
  ⟨some 13, .mv (.t 2), none⟩,
  ⟨some 14, .bin .lss (.t 12) (.t 13), none⟩])
 (.cond (.t 14) .skip (.exit 0)))
 (.seq (.block 1 (.seq (.ops [⟨some 17, .mv (.t 8), none⟩,
  ⟨some 9, .mv (.t 17), none⟩])
 (.block 2 (.loop [0, 1, 2, 3, 8, 9, 22, 23, 24, 25, 26, 27, 28, 29, 30, 31, 32, 33] (.seq (.seq (.dops [⟨some 18, .mv (.t 9), none⟩,
  ⟨some 19, .mv (.t 1), none⟩,
  ⟨some 20, .bin .gtr (.t 18) (.t 19), none⟩,
  ⟨some 21, .mv (.t 20), none⟩,
  ⟨some 22, .mv (.t 3), some (21, true)⟩,
  ⟨some 23, .mv (.t 0), some (21, true)⟩,
  ⟨some 24, .mv (.t 9), some (21, true)⟩,
  ⟨some 25, .ix 2 (.t 23) (.t 24), some (21, true)⟩,
  ⟨some 26, .ld 2 true (.t 25), some (21, true)⟩,
  ⟨some 27, .mv (.t 0), some (21, true)⟩,
  ⟨some 28, .mv (.t 9), some (21, true)⟩,
  ⟨some 29, .bin .sub (.t 28) (.k (.int .i64 1)), some (21, true)⟩,
  ⟨some 30, .ix 2 (.t 27) (.t 29), some (21, true)⟩,
  ⟨some 31, .ld 2 true (.t 30), some (21, true)⟩,
  ⟨some 32, .callv (.t 22) [(.t 26), (.t 31)], some (21, true)⟩,
  ⟨some 33, .bin .lss (.t 32) (.k (.int .i64 0)), some (21, true)⟩,
  ⟨some 34, .pick (.t 21) (.t 33) (.k (.bool false)), none⟩])
 (.cond (.t 34) .skip (.exit 2)))
 (.seq (.block 3 (.dops [⟨some 37, .mv (.t 0), none⟩,
  ⟨some 38, .mv (.t 9), none⟩,
  ⟨some 39, .mv (.t 0), none⟩,
  ⟨some 40, .mv (.t 9), none⟩,
  ⟨some 41, .bin .sub (.t 40) (.k (.int .i64 1)), none⟩,
  ⟨some 42, .mv (.t 0), none⟩,
  ⟨some 43, .mv (.t 9), none⟩,
  ⟨some 44, .bin .sub (.t 43) (.k (.int .i64 1)), none⟩,
  ⟨some 45, .ix 2 (.t 42) (.t 44), none⟩,
  ⟨some 46, .ld 2 true (.t 45), none⟩,
  ⟨some 47, .mv (.t 0), none⟩,
  ⟨some 48, .mv (.t 9), none⟩,
  ⟨some 49, .ix 2 (.t 47) (.t 48), none⟩,
  ⟨some 50, .ld 2 true (.t 49), none⟩,
  ⟨some 51, .ix 2 (.t 37) (.t 38), none⟩,
  ⟨none, .st 2 (.t 51) (.t 46), none⟩,
  ⟨some 52, .ix 2 (.t 39) (.t 41), none⟩,
  ⟨none, .st 2 (.t 52) (.t 50), none⟩]))
 (.ops [⟨some 35, .mv (.t 9), none⟩,
  ⟨some 36, .bin .sub (.t 35) (.k (.int .i64 1)), none⟩,
  ⟨some 9, .mv (.t 36), none⟩])))))))
 (.ops [⟨some 15, .mv (.t 8), none⟩,
  ⟨some 16, .bin .add (.t 15) (.k (.int .i64 1)), none⟩,
  ⟨some 8, .mv (.t 16), none⟩])))))), [], false⟩
/-- eyot/eyotlaw11.DfaNone -/
def a45 : AFn := ⟨0, (.seq (.ops [⟨some 0, .mv (.k (.bool false)), none⟩])
 (.seq (.ops [⟨some 10, .call 25 [(.k (.list true []))], none⟩,
  ⟨some 9, .mv (.t 10), none⟩,
  ⟨some 11, .ext 0 (.t 9), none⟩,
  ⟨some 12, .ext 1 (.t 9), none⟩,
  ⟨some 1, .alv (List.replicate 256 (.int .u8 0) ++ [.list true [], .list true []]), none⟩,
  ⟨none, .st 258 (.t 1) (.t 11), none⟩,
  ⟨some 2, .mv (.t 12), none⟩])
 (.seq (.ops [⟨some 14, .ldl 258 true 1, none⟩,
  ⟨some 15, .mkl (.int .u8 0) 1 [(0, (.k (.int .u8 97)))], none⟩,
  ⟨some 16, .cvl (.t 15), none⟩,
  ⟨some 17, .call 23 [(.t 14), (.t 16)], none⟩,
  ⟨some 13, .mv (.t 17), none⟩,
  ⟨some 18, .ext 0 (.t 13), none⟩,
  ⟨some 19, .ext 1 (.t 13), none⟩,
  ⟨some 3, .mv (.t 18), none⟩,
  ⟨some 4, .mv (.t 19), none⟩])
 (.seq (.ops [⟨some 21, .bld (.agg (List.replicate 256 (.int .u8 0) ++ [.list true [], .list true []])) [], none⟩,
  ⟨some 22, .mkl (.int .u8 0) 1 [(0, (.k (.int .u8 97)))], none⟩,
  ⟨some 23, .cvl (.t 22), none⟩,
  ⟨some 24, .call 23 [(.t 21), (.t 23)], none⟩,
  ⟨some 20, .mv (.t 24), none⟩,
  ⟨some 25, .ext 0 (.t 20), none⟩,
  ⟨some 26, .ext 1 (.t 20), none⟩,
  ⟨some 5, .mv (.t 25), none⟩,
  ⟨some 6, .mv (.t 26), none⟩])
 (.seq (.ops [⟨some 28, .bld (.agg ([.str [], .int .i64 0, .int .u64 0, .int .u64 0, .int .u64 0, .int .u64 0, .list true [], .bool false])) [((0, 1), (.k (.str [97])))], none⟩,
  ⟨some 29, .mkl (.agg ([.str [], .int .i64 0, .int .u64 0, .int .u64 0, .int .u64 0, .int .u64 0, .list true [], .bool false])) 1 [(0, (.t 28))], none⟩,
  ⟨some 30, .call 25 [(.t 29)], none⟩,
  ⟨some 27, .mv (.t 30), none⟩,
  ⟨some 31, .ext 0 (.t 27), none⟩,
  ⟨some 32, .ext 1 (.t 27), none⟩,
  ⟨some 7, .alv (List.replicate 256 (.int .u8 0) ++ [.list true [], .list true []]), none⟩,
  ⟨none, .st 258 (.t 7) (.t 31), none⟩,
  ⟨some 8, .mv (.t 32), none⟩])
 (.seq (.ops [⟨some 33, .call 27 [], none⟩,
  ⟨some 34, .mv (.t 33), none⟩,
  ⟨some 35, .mv (.t 2), some (34, true)⟩,
  ⟨some 36, .bin .eql (.t 35) (.k (.int .i64 0)), some (34, true)⟩,
  ⟨some 37, .pick (.t 34) (.t 36) (.k (.bool false)), none⟩,
  ⟨some 38, .mv (.t 37), none⟩,
  ⟨some 39, .fa 256 1 false (.t 1), some (38, true)⟩,
  ⟨some 40, .ldp 1 false (.t 39), some (38, true)⟩,
  ⟨some 41, .len (.t 40), some (38, true)⟩,
  ⟨some 42, .bin .eql (.t 41) (.k (.int .i64 1)), some (38, true)⟩,
  ⟨some 43, .pick (.t 38) (.t 42) (.k (.bool false)), none⟩,
  ⟨some 44, .mv (.t 43), none⟩,
  ⟨some 45, .fa 257 1 false (.t 1), some (44, true)⟩,
  ⟨some 46, .ldp 1 false (.t 45), some (44, true)⟩,
  ⟨some 47, .len (.t 46), some (44, true)⟩,
  ⟨some 48, .bin .eql (.t 47) (.k (.int .i64 1)), some (44, true)⟩,
  ⟨some 49, .pick (.t 44) (.t 48) (.k (.bool false)), none⟩,
  ⟨some 50, .mv (.t 49), none⟩,
  ⟨some 51, .fa 257 1 false (.t 1), some (50, true)⟩,
  ⟨some 52, .ldp 1 false (.t 51), some (50, true)⟩,
  ⟨some 53, .ix 1 (.t 52) (.k (.int .i64 0)), some (50, true)⟩,
  ⟨some 54, .ld 1 false (.t 53), some (50, true)⟩,
  ⟨some 55, .bin .eql (.t 54) (.k (.int .i64 (-1))), some (50, true)⟩,
  ⟨some 56, .pick (.t 50) (.t 55) (.k (.bool false)), none⟩,
  ⟨some 57, .mv (.t 56), none⟩,
  ⟨some 58, .ldl 258 true 1, some (57, true)⟩,
  ⟨some 59, .call 21 [(.t 58)], some (57, true)⟩,
  ⟨some 60, .pick (.t 57) (.t 59) (.k (.bool false)), none⟩,
  ⟨some 61, .mv (.t 60), none⟩,
  ⟨some 62, .mv (.t 3), some (61, true)⟩,
  ⟨some 63, .bin .eql (.t 62) (.k (.int .i64 (-1))), some (61, true)⟩,
  ⟨some 64, .pick (.t 61) (.t 63) (.k (.bool false)), none⟩,
  ⟨some 65, .mv (.t 64), none⟩,
  ⟨some 66, .mv (.t 4), some (65, true)⟩,
  ⟨some 67, .bin .eql (.t 66) (.k (.int .i64 0)), some (65, true)⟩,
  ⟨some 68, .pick (.t 65) (.t 67) (.k (.bool false)), none⟩,
  ⟨some 69, .mv (.t 68), none⟩,
  ⟨some 70, .bld (.agg (List.replicate 256 (.int .u8 0) ++ [.list true [], .list true []])) [], some (69, true)⟩,
  ⟨some 71, .call 21 [(.t 70)], some (69, true)⟩,
  ⟨some 72, .un .not (.t 71), some (69, true)⟩,
  ⟨some 73, .pick (.t 69) (.t 72) (.k (.bool false)), none⟩,
  ⟨some 74, .mv (.t 73), none⟩,
  ⟨some 75, .mv (.t 5), some (74, true)⟩,
  ⟨some 76, .bin .eql (.t 75) (.k (.int .i64 (-1))), some (74, true)⟩,
  ⟨some 77, .pick (.t 74) (.t 76) (.k (.bool false)), none⟩,
  ⟨some 78, .mv (.t 77), none⟩,
  ⟨some 79, .mv (.t 6), some (78, true)⟩,
  ⟨some 80, .bin .eql (.t 79) (.k (.int .i64 0)), some (78, true)⟩,
  ⟨some 81, .pick (.t 78) (.t 80) (.k (.bool false)), none⟩,
  ⟨some 82, .mv (.t 81), none⟩,
  ⟨some 83, .bld (.agg (List.replicate 256 (.int .u8 0) ++ [.list true [], .list true []])) [], some (82, true)⟩,
  ⟨some 84, .call 26 [(.t 83), (.k (.list true []))], some (82, true)⟩,
  ⟨some 85, .bin .eql (.t 84) (.k (.int .i64 (-1))), some (82, true)⟩,
  ⟨some 86, .pick (.t 82) (.t 85) (.k (.bool false)), none⟩,
  ⟨some 87, .mv (.t 86), none⟩,
  ⟨some 88, .ldl 258 true 1, some (87, true)⟩,
  ⟨some 89, .call 26 [(.t 88), (.k (.list true []))], some (87, true)⟩,
  ⟨some 90, .bin .eql (.t 89) (.k (.int .i64 (-1))), some (87, true)⟩,
  ⟨some 91, .pick (.t 87) (.t 90) (.k (.bool false)), none⟩,
  ⟨some 92, .mv (.t 91), none⟩,
  ⟨some 93, .mv (.t 8), some (92, true)⟩,
  ⟨some 94, .bin .eql (.t 93) (.k (.int .i64 2)), some (92, true)⟩,
  ⟨some 95, .pick (.t 92) (.t 94) (.k (.bool false)), none⟩,
  ⟨some 0, .mv (.t 95), none⟩])
 .ret)))))), [.tmp 0], true⟩
end Ey.Dn
