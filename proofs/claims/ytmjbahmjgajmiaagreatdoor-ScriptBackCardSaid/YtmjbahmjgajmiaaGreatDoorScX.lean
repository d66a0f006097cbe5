/- Functions of the program, as code of the small language: those of which something is shown by hand. Printed by seat2.py. -/
import Derived.Test.YtmjbahmjgajmiaaGreatDoorEyB3
namespace Ey.Sc
set_option maxRecDepth 100000
/-- eyot/eyotref13.SameInts -/
def a94 : AFn := ⟨2, (.seq (.ops [⟨some 4, .mv (.k (.bool false)), none⟩])
 (.seq (.seq (.ops [⟨some 6, .mv (.t 0), none⟩,
  ⟨some 7, .len (.t 6), none⟩,
  ⟨some 8, .mv (.t 1), none⟩,
  ⟨some 9, .len (.t 8), none⟩,
  ⟨some 10, .bin .neq (.t 7) (.t 9), none⟩])
 (.cond (.t 10) (.seq (.ops [⟨some 4, .mv (.k (.bool false)), none⟩])
 .ret) .skip))
 (.seq (.seq (.ops [⟨some 5, .mv (.k (.int .i64 0)), none⟩])
 (.block 0 (.loop [0, 1, 5] (.seq (.seq (.ops [⟨some 11, .mv (.t 5), none⟩,
  ⟨some 12, .mv (.t 0), none⟩,
  ⟨some 13, .len (.t 12), none⟩,
  ⟨some 14, .bin .lss (.t 11) (.t 13), none⟩])
 (.cond (.t 14) .skip (.exit 0)))
 (.seq (.block 1 (.seq (.dops [⟨some 17, .mv (.t 0), none⟩,
  ⟨some 18, .mv (.t 5), none⟩,
  ⟨some 19, .ix 1 (.t 17) (.t 18), none⟩,
  ⟨some 20, .ld 1 false (.t 19), none⟩,
  ⟨some 21, .mv (.t 1), none⟩,
  ⟨some 22, .mv (.t 5), none⟩,
  ⟨some 23, .ix 1 (.t 21) (.t 22), none⟩,
  ⟨some 24, .ld 1 false (.t 23), none⟩,
  ⟨some 25, .bin .neq (.t 20) (.t 24), none⟩])
 (.cond (.t 25) (.seq (.ops [⟨some 4, .mv (.k (.bool false)), none⟩])
 .ret) .skip)))
 (.ops [⟨some 15, .mv (.t 5), none⟩,
  ⟨some 16, .bin .add (.t 15) (.k (.int .i64 1)), none⟩,
  ⟨some 5, .mv (.t 16), none⟩]))))))
 (.seq (.ops [⟨some 4, .mv (.k (.bool true)), none⟩])
 .ret)))), [.tmp 4], true⟩
/-- slices.Clone[[]byte,byte] -/
def a183 : AFn := ⟨1, (.seq (.ops [⟨some 2, .mv (.k (.list true [])), none⟩])
 (.seq (.seq (.ops [⟨some 3, .mv (.t 0), none⟩,
  ⟨some 4, .eq false .slice (.t 3) (.k (.list true [])), none⟩])
 (.cond (.t 4) (.seq (.ops [⟨some 2, .mv (.k (.list true [])), none⟩])
 (.seq (.ops [⟨none, .frz (.sl .no) 2, none⟩]) .ret)) .skip))
 (.seq (.ops [⟨some 5, .mkm (.int .u8 0) 0 [], none⟩,
  ⟨some 6, .mv (.t 0), none⟩,
  ⟨some 7, .app 1 (.t 5) (.t 6), none⟩,
  ⟨some 2, .mv (.t 7), none⟩])
 (.seq (.ops [⟨none, .frz (.sl .no) 2, none⟩]) .ret)))), [.tmp 2], true⟩
/-- (*eyot/script.reader).take -/
def a185 : AFn := ⟨2, (.seq (.ops [⟨some 4, .mv (.k (.list true [])), none⟩])
 (.seq (.seq (.ops [⟨some 6, .mv (.t 0), none⟩,
  ⟨some 7, .nilc (.t 6), none⟩,
  ⟨some 8, .fa 0 1 false (.t 7), none⟩,
  ⟨some 9, .ld 1 false (.t 8), none⟩,
  ⟨some 10, .len (.t 9), none⟩,
  ⟨some 11, .mv (.t 1), none⟩,
  ⟨some 12, .bin .lss (.t 10) (.t 11), none⟩])
 (.cond (.t 12) (.ops [⟨some 13, .bld (.agg ([])) [], none⟩,
  ⟨some 14, .mkif 9 (.t 13), none⟩,
  ⟨none, .pan (.t 14), none⟩]) .skip))
 (.seq (.ops [⟨some 15, .mv (.t 0), none⟩,
  ⟨some 16, .nilc (.t 15), none⟩,
  ⟨some 17, .fa 0 1 false (.t 16), none⟩,
  ⟨some 18, .ld 1 false (.t 17), none⟩,
  ⟨some 19, .mv (.t 1), none⟩,
  ⟨some 20, .sl 1 (.t 18) none (some (.t 19)) none, none⟩,
  ⟨some 21, .call 183 [(.t 20)], none⟩,
  ⟨some 5, .mv (.t 21), none⟩])
 (.seq (.ops [⟨some 22, .mv (.t 0), none⟩,
  ⟨some 23, .mv (.t 0), none⟩,
  ⟨some 24, .nilc (.t 23), none⟩,
  ⟨some 25, .fa 0 1 false (.t 24), none⟩,
  ⟨some 26, .ld 1 false (.t 25), none⟩,
  ⟨some 27, .mv (.t 1), none⟩,
  ⟨some 28, .sl 1 (.t 26) (some (.t 27)) none none, none⟩,
  ⟨some 29, .nilc (.t 22), none⟩,
  ⟨some 30, .fa 0 1 false (.t 29), none⟩,
  ⟨none, .st 1 (.t 30) (.t 28), none⟩])
 (.seq (.ops [⟨some 31, .mv (.t 5), none⟩,
  ⟨some 4, .mv (.t 31), none⟩])
 .ret))))), [.tmp 4], false⟩
/-- eyot/script.one -/
def a186 : AFn := ⟨1, (.seq (.ops [⟨some 2, .mv (.k (.bool false)), none⟩])
 (.seq (.ops [⟨some 3, .mv (.t 0), none⟩,
  ⟨some 4, .bin .geq (.t 3) (.k (.int .i64 1)), none⟩,
  ⟨some 5, .mv (.t 4), none⟩,
  ⟨some 6, .mv (.t 0), some (5, true)⟩,
  ⟨some 7, .bin .leq (.t 6) (.k (.int .i64 7)), some (5, true)⟩,
  ⟨some 8, .pick (.t 5) (.t 7) (.k (.bool false)), none⟩,
  ⟨some 2, .mv (.t 8), none⟩])
 .ret)), [.tmp 2], true⟩
/-- (*eyot/script.reader).place -/
def a187 : AFn := ⟨1, (.seq (.ops [⟨some 2, .mv (.k (.int .i64 0)), none⟩])
 (.seq (.ops [⟨some 4, .mv (.t 0), none⟩,
  ⟨some 5, .call 185 [(.t 4), (.k (.int .i64 2))], none⟩,
  ⟨some 3, .mv (.t 5), none⟩])
 (.seq (.dops [⟨some 6, .mv (.t 3), none⟩,
  ⟨some 7, .ix 1 (.t 6) (.k (.int .i64 0)), none⟩,
  ⟨some 8, .ld 1 false (.t 7), none⟩,
  ⟨some 9, .cvi .i64 (.t 8), none⟩,
  ⟨some 10, .bin .shl (.t 9) (.k (.int .u64 8)), none⟩,
  ⟨some 11, .mv (.t 3), none⟩,
  ⟨some 12, .ix 1 (.t 11) (.k (.int .i64 1)), none⟩,
  ⟨some 13, .ld 1 false (.t 12), none⟩,
  ⟨some 14, .cvi .i64 (.t 13), none⟩,
  ⟨some 15, .bin .or (.t 10) (.t 14), none⟩,
  ⟨some 2, .mv (.t 15), none⟩])
 .ret))), [.tmp 2], false⟩
/-- eyot/script.two -/
def a188 : AFn := ⟨1, (.seq (.ops [⟨some 2, .mv (.k (.bool false)), none⟩])
 (.seq (.ops [⟨some 3, .mv (.t 0), none⟩,
  ⟨some 4, .bin .geq (.t 3) (.k (.int .i64 1)), none⟩,
  ⟨some 5, .mv (.t 4), none⟩,
  ⟨some 6, .mv (.t 0), some (5, true)⟩,
  ⟨some 7, .bin .leq (.t 6) (.k (.int .i64 3)), some (5, true)⟩,
  ⟨some 8, .pick (.t 5) (.t 7) (.k (.bool false)), none⟩,
  ⟨some 9, .mv (.t 8), none⟩,
  ⟨some 10, .mv (.t 0), some (9, false)⟩,
  ⟨some 11, .bin .eql (.t 10) (.k (.int .i64 7)), some (9, false)⟩,
  ⟨some 12, .pick (.t 9) (.k (.bool true)) (.t 11), none⟩,
  ⟨some 2, .mv (.t 12), none⟩])
 .ret)), [.tmp 2], true⟩
/-- (*eyot/script.reader).list -/
def a189 : AFn := ⟨1, (.seq (.ops [⟨some 2, .mv (.k (.list true [])), none⟩])
 (.seq (.ops [⟨some 3, .mv (.t 0), none⟩,
  ⟨some 4, .mv (.t 0), none⟩,
  ⟨some 5, .call 185 [(.t 4), (.k (.int .i64 1))], none⟩,
  ⟨some 6, .ix 1 (.t 5) (.k (.int .i64 0)), none⟩,
  ⟨some 7, .ld 1 false (.t 6), none⟩,
  ⟨some 8, .cvi .i64 (.t 7), none⟩,
  ⟨some 9, .call 185 [(.t 3), (.t 8)], none⟩,
  ⟨some 2, .mv (.t 9), none⟩])
 .ret)), [.tmp 2], false⟩
/-- (*eyot/script.reader).cmd -/
def a190 : AFn := ⟨1, (.seq (.ops [⟨some 2, .aob ([.int .i64 0, .int .i64 0, .int .i64 0, .list true [], .list true []]), none⟩,
  ⟨some 3, .aob ([.bool false]), none⟩])
 (.dfr 6 269 [(.t 2), (.t 3)] 5 (.seq (.ops [⟨some 7, .mv (.t 0), none⟩,
  ⟨some 8, .call 185 [(.t 7), (.k (.int .i64 1))], none⟩,
  ⟨some 9, .ix 1 (.t 8) (.k (.int .i64 0)), none⟩,
  ⟨some 10, .ld 1 false (.t 9), none⟩,
  ⟨some 11, .cvi .i64 (.t 10), none⟩,
  ⟨some 12, .bin .rem (.t 11) (.k (.int .i64 10)), none⟩,
  ⟨some 13, .bin .add (.t 12) (.k (.int .i64 1)), none⟩,
  ⟨some 14, .fa 0 1 false (.t 2), none⟩,
  ⟨none, .st 1 (.t 14) (.t 13), none⟩])
 (.seq (.seq (.ops [⟨some 15, .fa 0 1 false (.t 2), none⟩,
  ⟨some 16, .ldo 1 false (.t 15), none⟩,
  ⟨some 17, .call 186 [(.t 16)], none⟩])
 (.cond (.t 17) (.ops [⟨some 18, .mv (.t 0), none⟩,
  ⟨some 19, .call 187 [(.t 18)], none⟩,
  ⟨some 20, .fa 1 1 false (.t 2), none⟩,
  ⟨none, .st 1 (.t 20) (.t 19), none⟩]) .skip))
 (.seq (.seq (.ops [⟨some 21, .fa 0 1 false (.t 2), none⟩,
  ⟨some 22, .ldo 1 false (.t 21), none⟩,
  ⟨some 23, .call 188 [(.t 22)], none⟩])
 (.cond (.t 23) (.ops [⟨some 24, .mv (.t 0), none⟩,
  ⟨some 25, .call 187 [(.t 24)], none⟩,
  ⟨some 26, .fa 2 1 false (.t 2), none⟩,
  ⟨none, .st 1 (.t 26) (.t 25), none⟩]) .skip))
 (.seq (.seq (.ops [⟨some 27, .fa 0 1 false (.t 2), none⟩,
  ⟨some 28, .ldo 1 false (.t 27), none⟩])
 (.block 0 (.seq (.ops [⟨some 30, .bin .eql (.t 28) (.k (.int .i64 7)), none⟩,
  ⟨some 29, .mv (.t 30), none⟩])
 (.cond (.t 29) (.ops [⟨some 31, .mv (.t 0), none⟩,
  ⟨some 32, .call 189 [(.t 31)], none⟩,
  ⟨some 33, .fa 3 1 false (.t 2), none⟩,
  ⟨none, .st 1 (.t 33) (.t 32), none⟩]) (.seq (.ops [⟨some 35, .bin .eql (.t 28) (.k (.int .i64 9)), none⟩,
  ⟨some 34, .mv (.t 35), none⟩])
 (.cond (.t 34) (.seq (.ops [⟨some 36, .mv (.t 0), none⟩,
  ⟨some 37, .call 189 [(.t 36)], none⟩,
  ⟨some 38, .len (.t 37), none⟩,
  ⟨some 39, .mv (.k (.int .i64 0)), none⟩])
 (.block 1 (.loop [2, 3, 37, 38, 39] (.seq (.ops [⟨some 40, .bin .lss (.t 39) (.t 38), none⟩])
 (.seq (.cond (.t 40) .skip (.exit 1))
 (.seq (.block 2 (.seq (.ops [⟨some 41, .ix 1 (.t 37) (.t 39), none⟩,
  ⟨some 42, .ld 1 false (.t 41), none⟩,
  ⟨some 5, .mv (.t 42), none⟩])
 (.ops [⟨some 43, .fa 4 1 false (.t 2), none⟩,
  ⟨some 44, .ldo 1 false (.t 43), none⟩,
  ⟨some 45, .mv (.t 5), none⟩,
  ⟨some 46, .cvi .i64 (.t 45), none⟩,
  ⟨some 47, .mkl (.int .i64 0) 1 [(0, (.t 46))], none⟩,
  ⟨some 48, .app 1 (.t 44) (.t 47), none⟩,
  ⟨some 49, .fa 4 1 false (.t 2), none⟩,
  ⟨none, .st 1 (.t 49) (.t 48), none⟩])))
 (.ops [⟨some 50, .bin .add (.t 39) (.k (.int .i64 1)), none⟩,
  ⟨some 39, .mv (.t 50), none⟩]))))))) .skip))))))
 (.seq (.ops [⟨some 51, .ldo 5 true (.t 2), none⟩,
  ⟨none, .st 5 (.t 2) (.t 51), none⟩,
  ⟨none, .st 1 (.t 3) (.k (.bool true)), none⟩])
 .ret)))))
 (.seq (.ops [⟨some 6, .tas 9 (.agg ([])) true (.t 5), none⟩,
  ⟨some 4, .mv (.t 6), none⟩,
  ⟨some 7, .ext 0 (.t 4), none⟩,
  ⟨some 8, .ext 1 (.t 4), none⟩,
  ⟨some 2, .alv ([]), none⟩,
  ⟨none, .st0 (.t 2) (.t 7), none⟩,
  ⟨some 3, .mv (.t 8), none⟩])
 (.seq (.ops [⟨some 9, .mv (.t 3), none⟩])
 (.cond (.t 9) (.ops [⟨some 10, .bld (.agg ([.int .i64 0, .int .i64 0, .int .i64 0, .list true [], .list true []])) [], none⟩,
  ⟨none, .st 5 (.t 0) (.t 10), none⟩,
  ⟨none, .st 1 (.t 1) (.k (.bool false)), none⟩]) .skip))))), [.cell 2 5 true, .cell 3 1 false], false⟩
/-- bytes.Equal -/
def a194 : AFn := ⟨2, (.seq (.ops [⟨some 4, .mv (.k (.bool false)), none⟩])
 (.seq (.ops [⟨some 5, .mv (.t 0), none⟩,
  ⟨some 6, .cvb (.t 5), none⟩,
  ⟨some 7, .mv (.t 1), none⟩,
  ⟨some 8, .cvb (.t 7), none⟩,
  ⟨some 9, .bin .eql (.t 6) (.t 8), none⟩,
  ⟨some 4, .mv (.t 9), none⟩])
 .ret)), [.tmp 4], true⟩
/-- eyot/script.Decode -/
def a198 : AFn := ⟨1, (.seq (.ops [⟨some 2, .mv (.k (.list true [])), none⟩])
 (.seq (.ops [⟨some 7, .mv (.t 0), none⟩,
  ⟨some 8, .bld (.agg ([.list true []])) [((0, 1), (.t 7))], none⟩,
  ⟨some 9, .bob 1 (.t 8), none⟩,
  ⟨some 3, .mv (.t 9), none⟩])
 (.seq (.ops [⟨some 4, .mv (.k (.list true [])), none⟩])
 (.block 0 (.loop [3, 4] (.block 1 (.seq (.ops [⟨some 11, .mv (.t 3), none⟩,
  ⟨some 12, .call 190 [(.t 11)], none⟩,
  ⟨some 10, .mv (.t 12), none⟩,
  ⟨some 13, .ext 0 (.t 10), none⟩,
  ⟨some 14, .ext 1 (.t 10), none⟩,
  ⟨some 5, .alv ([.int .i64 0, .int .i64 0, .int .i64 0, .list true [], .list true []]), none⟩,
  ⟨none, .st 5 (.t 5) (.t 13), none⟩,
  ⟨some 6, .mv (.t 14), none⟩])
 (.seq (.seq (.ops [⟨some 15, .mv (.t 6), none⟩,
  ⟨some 16, .un .not (.t 15), none⟩])
 (.cond (.t 16) (.seq (.ops [⟨some 17, .mv (.t 4), none⟩,
  ⟨some 2, .mv (.t 17), none⟩])
 (.seq (.ops [⟨none, .frz (.sl (.ag 3 (.sl .no) (.ag 4 (.sl .no) .no))) 2, none⟩]) .ret)) .skip))
 (.ops [⟨some 18, .mv (.t 4), none⟩,
  ⟨some 19, .ldl 5 true 5, none⟩,
  ⟨some 20, .mkl (.agg ([.int .i64 0, .int .i64 0, .int .i64 0, .list true [], .list true []])) 1 [(0, (.t 19))], none⟩,
  ⟨some 21, .app 5 (.t 18) (.t 20), none⟩,
  ⟨some 4, .mv (.t 21), none⟩]))))))))), [.tmp 2], true⟩
/-- eyot/script.Encode -/
def a199 : AFn := ⟨1, (.seq (.ops [⟨some 2, .mv (.k (.list true [])), none⟩])
 (.seq (.ops [⟨some 3, .mv (.k (.list true [])), none⟩])
 (.seq (.seq (.ops [⟨some 8, .mv (.t 0), none⟩,
  ⟨some 9, .len (.t 8), none⟩,
  ⟨some 10, .mv (.k (.int .i64 0)), none⟩])
 (.block 0 (.loop [3, 8, 9, 10, 30, 31, 32, 33, 34] (.seq (.ops [⟨some 11, .bin .lss (.t 10) (.t 9), none⟩])
 (.seq (.cond (.t 11) .skip (.exit 0))
 (.seq (.block 1 (.seq (.ops [⟨some 12, .ix 5 (.t 8) (.t 10), none⟩,
  ⟨some 13, .ld 5 true (.t 12), none⟩,
  ⟨some 5, .alv ([.int .i64 0, .int .i64 0, .int .i64 0, .list true [], .list true []]), none⟩,
  ⟨none, .st 5 (.t 5) (.t 13), none⟩])
 (.seq (.seq (.ops [⟨some 14, .fa 3 1 false (.t 5), none⟩,
  ⟨some 15, .ldp 1 false (.t 14), none⟩,
  ⟨some 16, .len (.t 15), none⟩,
  ⟨some 17, .fa 4 1 false (.t 5), none⟩,
  ⟨some 18, .ldp 1 false (.t 17), none⟩,
  ⟨some 19, .len (.t 18), none⟩,
  ⟨some 20, .mnmx true (.t 16) (.t 19), none⟩,
  ⟨some 21, .bin .gtr (.t 20) (.k (.int .i64 255)), none⟩])
 (.cond (.t 21) (.exit 1) .skip))
 (.seq (.ops [⟨some 22, .ldl 5 true 5, none⟩,
  ⟨some 23, .call 208 [(.t 22)], none⟩,
  ⟨some 6, .mv (.t 23), none⟩])
 (.seq (.ops [⟨some 24, .mv (.t 6), none⟩,
  ⟨some 25, .call 198 [(.t 24)], none⟩,
  ⟨some 7, .mv (.t 25), none⟩])
 (.seq (.dops [⟨some 26, .mv (.t 7), none⟩,
  ⟨some 27, .len (.t 26), none⟩,
  ⟨some 28, .bin .eql (.t 27) (.k (.int .i64 1)), none⟩,
  ⟨some 29, .mv (.t 28), none⟩,
  ⟨some 30, .mv (.t 7), some (29, true)⟩,
  ⟨some 31, .ix 5 (.t 30) (.k (.int .i64 0)), some (29, true)⟩,
  ⟨some 32, .ld 5 true (.t 31), some (29, true)⟩,
  ⟨some 33, .ldl 5 true 5, some (29, true)⟩,
  ⟨some 34, .call 209 [(.t 32), (.t 33)], some (29, true)⟩,
  ⟨some 35, .pick (.t 29) (.t 34) (.k (.bool false)), none⟩])
 (.cond (.t 35) (.ops [⟨some 36, .mv (.t 3), none⟩,
  ⟨some 37, .mv (.t 6), none⟩,
  ⟨some 38, .app 1 (.t 36) (.t 37), none⟩,
  ⟨some 3, .mv (.t 38), none⟩]) .skip)))))))
 (.ops [⟨some 39, .bin .add (.t 10) (.k (.int .i64 1)), none⟩,
  ⟨some 10, .mv (.t 39), none⟩])))))))
 (.seq (.ops [⟨some 40, .mv (.t 3), none⟩,
  ⟨some 2, .mv (.t 40), none⟩])
 (.seq (.ops [⟨none, .frz (.sl .no) 2, none⟩]) .ret))))), [.tmp 2], true⟩
/-- eyot/eyotref23.SameCmds -/
def a200 : AFn := ⟨2, (.seq (.ops [⟨some 4, .mv (.k (.bool false)), none⟩])
 (.seq (.seq (.ops [⟨some 6, .mv (.t 0), none⟩,
  ⟨some 7, .len (.t 6), none⟩,
  ⟨some 8, .mv (.t 1), none⟩,
  ⟨some 9, .len (.t 8), none⟩,
  ⟨some 10, .bin .neq (.t 7) (.t 9), none⟩])
 (.cond (.t 10) (.seq (.ops [⟨some 4, .mv (.k (.bool false)), none⟩])
 .ret) .skip))
 (.seq (.seq (.ops [⟨some 5, .mv (.k (.int .i64 0)), none⟩])
 (.block 0 (.loop [0, 1, 5] (.seq (.seq (.ops [⟨some 11, .mv (.t 5), none⟩,
  ⟨some 12, .mv (.t 0), none⟩,
  ⟨some 13, .len (.t 12), none⟩,
  ⟨some 14, .bin .lss (.t 11) (.t 13), none⟩])
 (.cond (.t 14) .skip (.exit 0)))
 (.seq (.block 1 (.seq (.dops [⟨some 17, .mv (.t 0), none⟩,
  ⟨some 18, .mv (.t 5), none⟩,
  ⟨some 19, .ix 5 (.t 17) (.t 18), none⟩,
  ⟨some 20, .ld 5 true (.t 19), none⟩,
  ⟨some 21, .mv (.t 1), none⟩,
  ⟨some 22, .mv (.t 5), none⟩,
  ⟨some 23, .ix 5 (.t 21) (.t 22), none⟩,
  ⟨some 24, .ld 5 true (.t 23), none⟩,
  ⟨some 25, .call 203 [(.t 20), (.t 24)], none⟩,
  ⟨some 26, .un .not (.t 25), none⟩])
 (.cond (.t 26) (.seq (.ops [⟨some 4, .mv (.k (.bool false)), none⟩])
 .ret) .skip)))
 (.ops [⟨some 15, .mv (.t 5), none⟩,
  ⟨some 16, .bin .add (.t 15) (.k (.int .i64 1)), none⟩,
  ⟨some 5, .mv (.t 16), none⟩]))))))
 (.seq (.ops [⟨some 4, .mv (.k (.bool true)), none⟩])
 .ret)))), [.tmp 4], true⟩
/-- eyot/eyotlaw30.ScriptBack -/
def a201 : AFn := ⟨1, (.seq (.ops [⟨some 2, .mv (.k (.bool false)), none⟩])
 (.seq (.seq (.ops [⟨some 5, .call 197 [], none⟩,
  ⟨some 6, .un .not (.t 5), none⟩])
 (.cond (.t 6) (.seq (.ops [⟨some 2, .mv (.k (.bool false)), none⟩])
 .ret) .skip))
 (.seq (.seq (.ops [⟨some 7, .mv (.t 0), none⟩,
  ⟨some 8, .len (.t 7), none⟩,
  ⟨some 9, .bin .gtr (.t 8) (.k (.int .i64 1000)), none⟩])
 (.cond (.t 9) (.seq (.ops [⟨some 2, .mv (.k (.bool true)), none⟩])
 .ret) .skip))
 (.seq (.ops [⟨some 10, .mv (.t 0), none⟩,
  ⟨some 11, .call 198 [(.t 10)], none⟩,
  ⟨some 3, .mv (.t 11), none⟩])
 (.seq (.ops [⟨some 12, .mv (.t 3), none⟩,
  ⟨some 13, .call 199 [(.t 12)], none⟩,
  ⟨some 4, .mv (.t 13), none⟩])
 (.seq (.ops [⟨some 14, .mv (.t 4), none⟩,
  ⟨some 15, .call 198 [(.t 14)], none⟩,
  ⟨some 16, .mv (.t 3), none⟩,
  ⟨some 17, .call 200 [(.t 15), (.t 16)], none⟩,
  ⟨some 18, .mv (.t 17), none⟩,
  ⟨some 19, .mv (.t 4), some (18, true)⟩,
  ⟨some 20, .len (.t 19), some (18, true)⟩,
  ⟨some 21, .mv (.t 0), some (18, true)⟩,
  ⟨some 22, .len (.t 21), some (18, true)⟩,
  ⟨some 23, .bin .leq (.t 20) (.t 22), some (18, true)⟩,
  ⟨some 24, .pick (.t 18) (.t 23) (.k (.bool false)), none⟩,
  ⟨some 2, .mv (.t 24), none⟩])
 .ret)))))), [.tmp 2], true⟩
/-- eyot/eyotref23.SameCmd -/
def a203 : AFn := ⟨2, (.seq (.ops [⟨some 2, .bim 5 (.t 0), none⟩,
  ⟨some 3, .bim 5 (.t 1), none⟩,
  ⟨some 4, .mv (.k (.bool false)), none⟩])
 (.seq (.ops [⟨some 5, .fa 0 1 false (.t 2), none⟩,
  ⟨some 6, .ldi 1 false (.t 5), none⟩,
  ⟨some 7, .fa 0 1 false (.t 3), none⟩,
  ⟨some 8, .ldi 1 false (.t 7), none⟩,
  ⟨some 9, .bin .eql (.t 6) (.t 8), none⟩,
  ⟨some 10, .mv (.t 9), none⟩,
  ⟨some 11, .fa 1 1 false (.t 2), some (10, true)⟩,
  ⟨some 12, .ldi 1 false (.t 11), some (10, true)⟩,
  ⟨some 13, .fa 1 1 false (.t 3), some (10, true)⟩,
  ⟨some 14, .ldi 1 false (.t 13), some (10, true)⟩,
  ⟨some 15, .bin .eql (.t 12) (.t 14), some (10, true)⟩,
  ⟨some 16, .pick (.t 10) (.t 15) (.k (.bool false)), none⟩,
  ⟨some 17, .mv (.t 16), none⟩,
  ⟨some 18, .fa 2 1 false (.t 2), some (17, true)⟩,
  ⟨some 19, .ldi 1 false (.t 18), some (17, true)⟩,
  ⟨some 20, .fa 2 1 false (.t 3), some (17, true)⟩,
  ⟨some 21, .ldi 1 false (.t 20), some (17, true)⟩,
  ⟨some 22, .bin .eql (.t 19) (.t 21), some (17, true)⟩,
  ⟨some 23, .pick (.t 17) (.t 22) (.k (.bool false)), none⟩,
  ⟨some 24, .mv (.t 23), none⟩,
  ⟨some 25, .fa 3 1 false (.t 2), some (24, true)⟩,
  ⟨some 26, .ldi 1 false (.t 25), some (24, true)⟩,
  ⟨some 27, .cvb (.t 26), some (24, true)⟩,
  ⟨some 28, .fa 3 1 false (.t 3), some (24, true)⟩,
  ⟨some 29, .ldi 1 false (.t 28), some (24, true)⟩,
  ⟨some 30, .cvb (.t 29), some (24, true)⟩,
  ⟨some 31, .bin .eql (.t 27) (.t 30), some (24, true)⟩,
  ⟨some 32, .pick (.t 24) (.t 31) (.k (.bool false)), none⟩,
  ⟨some 33, .mv (.t 32), none⟩,
  ⟨some 34, .fa 4 1 false (.t 2), some (33, true)⟩,
  ⟨some 35, .ldi 1 false (.t 34), some (33, true)⟩,
  ⟨some 36, .fa 4 1 false (.t 3), some (33, true)⟩,
  ⟨some 37, .ldi 1 false (.t 36), some (33, true)⟩,
  ⟨some 38, .call 94 [(.t 35), (.t 37)], some (33, true)⟩,
  ⟨some 39, .pick (.t 33) (.t 38) (.k (.bool false)), none⟩,
  ⟨some 4, .mv (.t 39), none⟩])
 .ret)), [.tmp 4], true⟩
/-- eyot/script.put -/
def a208 : AFn := ⟨1, (.seq (.ops [⟨some 1, .bim 5 (.t 0), none⟩,
  ⟨some 2, .mv (.k (.list true [])), none⟩])
 (.seq (.ops [⟨some 6, .fa 0 1 false (.t 1), none⟩,
  ⟨some 7, .ldi 1 false (.t 6), none⟩,
  ⟨some 8, .bin .sub (.t 7) (.k (.int .i64 1)), none⟩,
  ⟨some 9, .cvi .u8 (.t 8), none⟩,
  ⟨some 10, .mkm (.int .u8 0) 1 [(0, (.t 9))], none⟩,
  ⟨some 3, .mv (.t 10), none⟩])
 (.seq (.seq (.ops [⟨some 11, .fa 0 1 false (.t 1), none⟩,
  ⟨some 12, .ldi 1 false (.t 11), none⟩,
  ⟨some 13, .call 186 [(.t 12)], none⟩])
 (.cond (.t 13) (.ops [⟨some 14, .mv (.t 3), none⟩,
  ⟨some 15, .fa 1 1 false (.t 1), none⟩,
  ⟨some 16, .ldi 1 false (.t 15), none⟩,
  ⟨some 17, .bin .shr (.t 16) (.k (.int .u64 8)), none⟩,
  ⟨some 18, .cvi .u8 (.t 17), none⟩,
  ⟨some 19, .fa 1 1 false (.t 1), none⟩,
  ⟨some 20, .ldi 1 false (.t 19), none⟩,
  ⟨some 21, .cvi .u8 (.t 20), none⟩,
  ⟨some 22, .mkl (.int .u8 0) 2 [(0, (.t 18)), (1, (.t 21))], none⟩,
  ⟨some 23, .app 1 (.t 14) (.t 22), none⟩,
  ⟨some 3, .mv (.t 23), none⟩]) .skip))
 (.seq (.seq (.ops [⟨some 24, .fa 0 1 false (.t 1), none⟩,
  ⟨some 25, .ldi 1 false (.t 24), none⟩,
  ⟨some 26, .call 188 [(.t 25)], none⟩])
 (.cond (.t 26) (.ops [⟨some 27, .mv (.t 3), none⟩,
  ⟨some 28, .fa 2 1 false (.t 1), none⟩,
  ⟨some 29, .ldi 1 false (.t 28), none⟩,
  ⟨some 30, .bin .shr (.t 29) (.k (.int .u64 8)), none⟩,
  ⟨some 31, .cvi .u8 (.t 30), none⟩,
  ⟨some 32, .fa 2 1 false (.t 1), none⟩,
  ⟨some 33, .ldi 1 false (.t 32), none⟩,
  ⟨some 34, .cvi .u8 (.t 33), none⟩,
  ⟨some 35, .mkl (.int .u8 0) 2 [(0, (.t 31)), (1, (.t 34))], none⟩,
  ⟨some 36, .app 1 (.t 27) (.t 35), none⟩,
  ⟨some 3, .mv (.t 36), none⟩]) .skip))
 (.seq (.seq (.ops [⟨some 37, .fa 0 1 false (.t 1), none⟩,
  ⟨some 38, .ldi 1 false (.t 37), none⟩])
 (.block 0 (.seq (.ops [⟨some 40, .bin .eql (.t 38) (.k (.int .i64 7)), none⟩,
  ⟨some 39, .mv (.t 40), none⟩])
 (.cond (.t 39) (.dops [⟨some 41, .mv (.t 3), none⟩,
  ⟨some 42, .fa 3 1 false (.t 1), none⟩,
  ⟨some 43, .ldi 1 false (.t 42), none⟩,
  ⟨some 44, .len (.t 43), none⟩,
  ⟨some 45, .cvi .u8 (.t 44), none⟩,
  ⟨some 46, .mkl (.int .u8 0) 1 [(0, (.t 45))], none⟩,
  ⟨some 47, .app 1 (.t 41) (.t 46), none⟩,
  ⟨some 48, .fa 3 1 false (.t 1), none⟩,
  ⟨some 49, .ldi 1 false (.t 48), none⟩,
  ⟨some 50, .app 1 (.t 47) (.t 49), none⟩,
  ⟨some 3, .mv (.t 50), none⟩]) (.seq (.ops [⟨some 52, .bin .eql (.t 38) (.k (.int .i64 9)), none⟩,
  ⟨some 51, .mv (.t 52), none⟩])
 (.cond (.t 51) (.seq (.ops [⟨some 53, .mv (.t 3), none⟩,
  ⟨some 54, .fa 4 1 false (.t 1), none⟩,
  ⟨some 55, .ldi 1 false (.t 54), none⟩,
  ⟨some 56, .len (.t 55), none⟩,
  ⟨some 57, .cvi .u8 (.t 56), none⟩,
  ⟨some 58, .mkl (.int .u8 0) 1 [(0, (.t 57))], none⟩,
  ⟨some 59, .app 1 (.t 53) (.t 58), none⟩,
  ⟨some 3, .mv (.t 59), none⟩])
 (.seq (.ops [⟨some 60, .fa 4 1 false (.t 1), none⟩,
  ⟨some 61, .ldi 1 false (.t 60), none⟩,
  ⟨some 62, .len (.t 61), none⟩,
  ⟨some 63, .mv (.k (.int .i64 0)), none⟩])
 (.block 1 (.loop [3, 61, 62, 63] (.seq (.ops [⟨some 64, .bin .lss (.t 63) (.t 62), none⟩])
 (.seq (.cond (.t 64) .skip (.exit 1))
 (.seq (.block 2 (.seq (.ops [⟨some 65, .ix 1 (.t 61) (.t 63), none⟩,
  ⟨some 66, .ld 1 false (.t 65), none⟩,
  ⟨some 5, .mv (.t 66), none⟩])
 (.ops [⟨some 67, .mv (.t 3), none⟩,
  ⟨some 68, .mv (.t 5), none⟩,
  ⟨some 69, .cvi .u8 (.t 68), none⟩,
  ⟨some 70, .mkl (.int .u8 0) 1 [(0, (.t 69))], none⟩,
  ⟨some 71, .app 1 (.t 67) (.t 70), none⟩,
  ⟨some 3, .mv (.t 71), none⟩])))
 (.ops [⟨some 72, .bin .add (.t 63) (.k (.int .i64 1)), none⟩,
  ⟨some 63, .mv (.t 72), none⟩])))))))) .skip))))))
 (.seq (.ops [⟨some 73, .mv (.t 3), none⟩,
  ⟨some 2, .mv (.t 73), none⟩])
 (.seq (.ops [⟨none, .frz (.sl .no) 2, none⟩]) .ret))))))), [.tmp 2], true⟩
/-- eyot/script.same -/
def a209 : AFn := ⟨2, (.seq (.ops [⟨some 2, .bim 5 (.t 0), none⟩,
  ⟨some 3, .bim 5 (.t 1), none⟩,
  ⟨some 4, .mv (.k (.bool false)), none⟩])
 (.seq (.ops [⟨some 5, .fa 0 1 false (.t 2), none⟩,
  ⟨some 6, .ldi 1 false (.t 5), none⟩,
  ⟨some 7, .fa 0 1 false (.t 3), none⟩,
  ⟨some 8, .ldi 1 false (.t 7), none⟩,
  ⟨some 9, .bin .eql (.t 6) (.t 8), none⟩,
  ⟨some 10, .mv (.t 9), none⟩,
  ⟨some 11, .fa 1 1 false (.t 2), some (10, true)⟩,
  ⟨some 12, .ldi 1 false (.t 11), some (10, true)⟩,
  ⟨some 13, .fa 1 1 false (.t 3), some (10, true)⟩,
  ⟨some 14, .ldi 1 false (.t 13), some (10, true)⟩,
  ⟨some 15, .bin .eql (.t 12) (.t 14), some (10, true)⟩,
  ⟨some 16, .pick (.t 10) (.t 15) (.k (.bool false)), none⟩,
  ⟨some 17, .mv (.t 16), none⟩,
  ⟨some 18, .fa 2 1 false (.t 2), some (17, true)⟩,
  ⟨some 19, .ldi 1 false (.t 18), some (17, true)⟩,
  ⟨some 20, .fa 2 1 false (.t 3), some (17, true)⟩,
  ⟨some 21, .ldi 1 false (.t 20), some (17, true)⟩,
  ⟨some 22, .bin .eql (.t 19) (.t 21), some (17, true)⟩,
  ⟨some 23, .pick (.t 17) (.t 22) (.k (.bool false)), none⟩,
  ⟨some 24, .mv (.t 23), none⟩,
  ⟨some 25, .fa 3 1 false (.t 2), some (24, true)⟩,
  ⟨some 26, .ldi 1 false (.t 25), some (24, true)⟩,
  ⟨some 27, .fa 3 1 false (.t 3), some (24, true)⟩,
  ⟨some 28, .ldi 1 false (.t 27), some (24, true)⟩,
  ⟨some 29, .call 194 [(.t 26), (.t 28)], some (24, true)⟩,
  ⟨some 30, .pick (.t 24) (.t 29) (.k (.bool false)), none⟩,
  ⟨some 31, .mv (.t 30), none⟩,
  ⟨some 32, .fa 4 1 false (.t 2), some (31, true)⟩,
  ⟨some 33, .ldi 1 false (.t 32), some (31, true)⟩,
  ⟨some 34, .fa 4 1 false (.t 3), some (31, true)⟩,
  ⟨some 35, .ldi 1 false (.t 34), some (31, true)⟩,
  ⟨some 36, .call 211 [(.t 33), (.t 35)], some (31, true)⟩,
  ⟨some 37, .pick (.t 31) (.t 36) (.k (.bool false)), none⟩,
  ⟨some 4, .mv (.t 37), none⟩])
 .ret)), [.tmp 4], true⟩
/-- slices.Equal[[]int,int] -/
def a211 : AFn := ⟨2, (.seq (.ops [⟨some 4, .mv (.k (.bool false)), none⟩])
 (.seq (.seq (.ops [⟨some 6, .mv (.t 0), none⟩,
  ⟨some 7, .len (.t 6), none⟩,
  ⟨some 8, .mv (.t 1), none⟩,
  ⟨some 9, .len (.t 8), none⟩,
  ⟨some 10, .bin .neq (.t 7) (.t 9), none⟩])
 (.cond (.t 10) (.seq (.ops [⟨some 4, .mv (.k (.bool false)), none⟩])
 .ret) .skip))
 (.seq (.seq (.ops [⟨some 11, .mv (.t 0), none⟩,
  ⟨some 12, .len (.t 11), none⟩,
  ⟨some 13, .mv (.k (.int .i64 0)), none⟩])
 (.block 0 (.loop [0, 1, 12, 13] (.seq (.ops [⟨some 14, .bin .lss (.t 13) (.t 12), none⟩])
 (.seq (.cond (.t 14) .skip (.exit 0))
 (.seq (.block 1 (.seq (.ops [⟨some 15, .mv (.t 13), none⟩,
  ⟨some 5, .mv (.t 15), none⟩])
 (.seq (.dops [⟨some 16, .mv (.t 0), none⟩,
  ⟨some 17, .mv (.t 5), none⟩,
  ⟨some 18, .ix 1 (.t 16) (.t 17), none⟩,
  ⟨some 19, .ld 1 false (.t 18), none⟩,
  ⟨some 20, .mv (.t 1), none⟩,
  ⟨some 21, .mv (.t 5), none⟩,
  ⟨some 22, .ix 1 (.t 20) (.t 21), none⟩,
  ⟨some 23, .ld 1 false (.t 22), none⟩,
  ⟨some 24, .bin .neq (.t 19) (.t 23), none⟩])
 (.cond (.t 24) (.seq (.ops [⟨some 4, .mv (.k (.bool false)), none⟩])
 .ret) .skip))))
 (.ops [⟨some 25, .bin .add (.t 13) (.k (.int .i64 1)), none⟩,
  ⟨some 13, .mv (.t 25), none⟩])))))))
 (.seq (.ops [⟨some 4, .mv (.k (.bool true)), none⟩])
 .ret)))), [.tmp 4], true⟩
/-- eyot/eyotlaw30.ScriptLeft -/
def a212 : AFn := ⟨5, (.seq (.ops [⟨some 10, .mv (.k (.bool false)), none⟩])
 (.seq (.seq (.ops [⟨some 17, .call 197 [], none⟩,
  ⟨some 18, .un .not (.t 17), none⟩])
 (.cond (.t 18) (.seq (.ops [⟨some 10, .mv (.k (.bool false)), none⟩])
 .ret) .skip))
 (.seq (.seq (.ops [⟨some 19, .mv (.t 3), none⟩,
  ⟨some 20, .len (.t 19), none⟩,
  ⟨some 21, .bin .gtr (.t 20) (.k (.int .i64 300)), none⟩,
  ⟨some 22, .mv (.t 21), none⟩,
  ⟨some 23, .mv (.t 4), some (22, false)⟩,
  ⟨some 24, .len (.t 23), some (22, false)⟩,
  ⟨some 25, .bin .gtr (.t 24) (.k (.int .i64 300)), some (22, false)⟩,
  ⟨some 26, .pick (.t 22) (.k (.bool true)) (.t 25), none⟩])
 (.cond (.t 26) (.seq (.ops [⟨some 10, .mv (.k (.bool true)), none⟩])
 .ret) .skip))
 (.seq (.ops [⟨some 27, .mv (.t 0), none⟩,
  ⟨some 28, .bin .rem (.t 27) (.k (.int .u8 13)), none⟩,
  ⟨some 29, .cvi .i64 (.t 28), none⟩,
  ⟨some 30, .mv (.t 1), none⟩,
  ⟨some 31, .mv (.t 2), none⟩,
  ⟨some 32, .mv (.t 3), none⟩,
  ⟨some 33, .mv (.t 4), none⟩,
  ⟨some 34, .bld (.agg ([.int .i64 0, .int .i64 0, .int .i64 0, .list true [], .list true []])) [((0, 1), (.t 29)), ((1, 1), (.t 30)), ((2, 1), (.t 31)), ((3, 1), (.t 32)), ((4, 1), (.t 33))], none⟩,
  ⟨some 11, .alv ([.int .i64 0, .int .i64 0, .int .i64 0, .list true [], .list true []]), none⟩,
  ⟨none, .st 5 (.t 11) (.t 34), none⟩])
 (.seq (.ops [⟨some 35, .mv (.t 1), none⟩,
  ⟨some 36, .bin .geq (.t 35) (.k (.int .i64 0)), none⟩,
  ⟨some 37, .mv (.t 36), none⟩,
  ⟨some 38, .mv (.t 1), some (37, true)⟩,
  ⟨some 39, .bin .lss (.t 38) (.k (.int .i64 65536)), some (37, true)⟩,
  ⟨some 40, .pick (.t 37) (.t 39) (.k (.bool false)), none⟩,
  ⟨some 12, .mv (.t 40), none⟩])
 (.seq (.ops [⟨some 41, .mv (.t 12), none⟩,
  ⟨some 42, .mv (.t 41), none⟩,
  ⟨some 43, .mv (.t 2), some (42, true)⟩,
  ⟨some 44, .bin .geq (.t 43) (.k (.int .i64 0)), some (42, true)⟩,
  ⟨some 45, .pick (.t 42) (.t 44) (.k (.bool false)), none⟩,
  ⟨some 46, .mv (.t 45), none⟩,
  ⟨some 47, .mv (.t 2), some (46, true)⟩,
  ⟨some 48, .bin .lss (.t 47) (.k (.int .i64 65536)), some (46, true)⟩,
  ⟨some 49, .pick (.t 46) (.t 48) (.k (.bool false)), none⟩,
  ⟨some 13, .mv (.t 49), none⟩])
 (.seq (.ops [⟨some 50, .mv (.t 3), none⟩,
  ⟨some 51, .len (.t 50), none⟩,
  ⟨some 52, .bin .eql (.t 51) (.k (.int .i64 0)), none⟩,
  ⟨some 53, .mv (.t 52), none⟩,
  ⟨some 54, .mv (.t 4), some (53, true)⟩,
  ⟨some 55, .len (.t 54), some (53, true)⟩,
  ⟨some 56, .bin .eql (.t 55) (.k (.int .i64 0)), some (53, true)⟩,
  ⟨some 57, .pick (.t 53) (.t 56) (.k (.bool false)), none⟩,
  ⟨some 14, .mv (.t 57), none⟩])
 (.seq (.ops [⟨some 15, .mv (.k (.bool false)), none⟩])
 (.seq (.seq (.ops [⟨some 58, .fa 0 1 false (.t 11), none⟩,
  ⟨some 59, .ldp 1 false (.t 58), none⟩])
 (.block 0 (.seq (.seq (.ops [⟨some 61, .bin .eql (.t 59) (.k (.int .i64 1)), none⟩,
  ⟨some 60, .mv (.t 61), none⟩])
 (.cond (.t 60) .skip (.seq (.ops [⟨some 62, .bin .eql (.t 59) (.k (.int .i64 2)), none⟩,
  ⟨some 60, .mv (.t 62), none⟩])
 (.cond (.t 60) .skip (.ops [⟨some 63, .bin .eql (.t 59) (.k (.int .i64 3)), none⟩,
  ⟨some 60, .mv (.t 63), none⟩])))))
 (.cond (.t 60) (.ops [⟨some 64, .mv (.t 13), none⟩,
  ⟨some 65, .mv (.t 64), none⟩,
  ⟨some 66, .mv (.t 14), some (65, true)⟩,
  ⟨some 67, .pick (.t 65) (.t 66) (.k (.bool false)), none⟩,
  ⟨some 15, .mv (.t 67), none⟩]) (.seq (.seq (.ops [⟨some 69, .bin .eql (.t 59) (.k (.int .i64 4)), none⟩,
  ⟨some 68, .mv (.t 69), none⟩])
 (.cond (.t 68) .skip (.seq (.ops [⟨some 70, .bin .eql (.t 59) (.k (.int .i64 5)), none⟩,
  ⟨some 68, .mv (.t 70), none⟩])
 (.cond (.t 68) .skip (.ops [⟨some 71, .bin .eql (.t 59) (.k (.int .i64 6)), none⟩,
  ⟨some 68, .mv (.t 71), none⟩])))))
 (.cond (.t 68) (.ops [⟨some 72, .mv (.t 12), none⟩,
  ⟨some 73, .mv (.t 72), none⟩,
  ⟨some 74, .mv (.t 2), some (73, true)⟩,
  ⟨some 75, .bin .eql (.t 74) (.k (.int .i64 0)), some (73, true)⟩,
  ⟨some 76, .pick (.t 73) (.t 75) (.k (.bool false)), none⟩,
  ⟨some 77, .mv (.t 76), none⟩,
  ⟨some 78, .mv (.t 14), some (77, true)⟩,
  ⟨some 79, .pick (.t 77) (.t 78) (.k (.bool false)), none⟩,
  ⟨some 15, .mv (.t 79), none⟩]) (.seq (.ops [⟨some 81, .bin .eql (.t 59) (.k (.int .i64 7)), none⟩,
  ⟨some 80, .mv (.t 81), none⟩])
 (.cond (.t 80) (.ops [⟨some 82, .mv (.t 13), none⟩,
  ⟨some 83, .mv (.t 82), none⟩,
  ⟨some 84, .mv (.t 3), some (83, true)⟩,
  ⟨some 85, .len (.t 84), some (83, true)⟩,
  ⟨some 86, .bin .lss (.t 85) (.k (.int .i64 256)), some (83, true)⟩,
  ⟨some 87, .pick (.t 83) (.t 86) (.k (.bool false)), none⟩,
  ⟨some 88, .mv (.t 87), none⟩,
  ⟨some 89, .mv (.t 4), some (88, true)⟩,
  ⟨some 90, .len (.t 89), some (88, true)⟩,
  ⟨some 91, .bin .eql (.t 90) (.k (.int .i64 0)), some (88, true)⟩,
  ⟨some 92, .pick (.t 88) (.t 91) (.k (.bool false)), none⟩,
  ⟨some 15, .mv (.t 92), none⟩]) (.seq (.seq (.ops [⟨some 94, .bin .eql (.t 59) (.k (.int .i64 8)), none⟩,
  ⟨some 93, .mv (.t 94), none⟩])
 (.cond (.t 93) .skip (.ops [⟨some 95, .bin .eql (.t 59) (.k (.int .i64 10)), none⟩,
  ⟨some 93, .mv (.t 95), none⟩])))
 (.cond (.t 93) (.ops [⟨some 96, .mv (.t 1), none⟩,
  ⟨some 97, .bin .eql (.t 96) (.k (.int .i64 0)), none⟩,
  ⟨some 98, .mv (.t 97), none⟩,
  ⟨some 99, .mv (.t 2), some (98, true)⟩,
  ⟨some 100, .bin .eql (.t 99) (.k (.int .i64 0)), some (98, true)⟩,
  ⟨some 101, .pick (.t 98) (.t 100) (.k (.bool false)), none⟩,
  ⟨some 102, .mv (.t 101), none⟩,
  ⟨some 103, .mv (.t 14), some (102, true)⟩,
  ⟨some 104, .pick (.t 102) (.t 103) (.k (.bool false)), none⟩,
  ⟨some 15, .mv (.t 104), none⟩]) (.seq (.ops [⟨some 106, .bin .eql (.t 59) (.k (.int .i64 9)), none⟩,
  ⟨some 105, .mv (.t 106), none⟩])
 (.cond (.t 105) (.seq (.ops [⟨some 107, .mv (.t 1), none⟩,
  ⟨some 108, .bin .eql (.t 107) (.k (.int .i64 0)), none⟩,
  ⟨some 109, .mv (.t 108), none⟩,
  ⟨some 110, .mv (.t 2), some (109, true)⟩,
  ⟨some 111, .bin .eql (.t 110) (.k (.int .i64 0)), some (109, true)⟩,
  ⟨some 112, .pick (.t 109) (.t 111) (.k (.bool false)), none⟩,
  ⟨some 113, .mv (.t 112), none⟩,
  ⟨some 114, .mv (.t 3), some (113, true)⟩,
  ⟨some 115, .len (.t 114), some (113, true)⟩,
  ⟨some 116, .bin .eql (.t 115) (.k (.int .i64 0)), some (113, true)⟩,
  ⟨some 117, .pick (.t 113) (.t 116) (.k (.bool false)), none⟩,
  ⟨some 118, .mv (.t 117), none⟩,
  ⟨some 119, .mv (.t 4), some (118, true)⟩,
  ⟨some 120, .len (.t 119), some (118, true)⟩,
  ⟨some 121, .bin .lss (.t 120) (.k (.int .i64 256)), some (118, true)⟩,
  ⟨some 122, .pick (.t 118) (.t 121) (.k (.bool false)), none⟩,
  ⟨some 15, .mv (.t 122), none⟩])
 (.seq (.ops [⟨some 16, .mv (.k (.int .i64 0)), none⟩])
 (.block 1 (.loop [4, 11, 15, 16, 131, 132, 133, 134, 135, 138, 139, 140, 141, 142] (.seq (.seq (.ops [⟨some 123, .mv (.t 16), none⟩,
  ⟨some 124, .mv (.t 4), none⟩,
  ⟨some 125, .len (.t 124), none⟩,
  ⟨some 126, .bin .lss (.t 123) (.t 125), none⟩])
 (.cond (.t 126) .skip (.exit 1)))
 (.seq (.block 2 (.ops [⟨some 129, .mv (.t 15), none⟩,
  ⟨some 130, .mv (.t 129), none⟩,
  ⟨some 131, .mv (.t 4), some (130, true)⟩,
  ⟨some 132, .mv (.t 16), some (130, true)⟩,
  ⟨some 133, .ix 1 (.t 131) (.t 132), some (130, true)⟩,
  ⟨some 134, .ld 1 false (.t 133), some (130, true)⟩,
  ⟨some 135, .bin .geq (.t 134) (.k (.int .i64 0)), some (130, true)⟩,
  ⟨some 136, .pick (.t 130) (.t 135) (.k (.bool false)), none⟩,
  ⟨some 137, .mv (.t 136), none⟩,
  ⟨some 138, .mv (.t 4), some (137, true)⟩,
  ⟨some 139, .mv (.t 16), some (137, true)⟩,
  ⟨some 140, .ix 1 (.t 138) (.t 139), some (137, true)⟩,
  ⟨some 141, .ld 1 false (.t 140), some (137, true)⟩,
  ⟨some 142, .bin .lss (.t 141) (.k (.int .i64 256)), some (137, true)⟩,
  ⟨some 143, .pick (.t 137) (.t 142) (.k (.bool false)), none⟩,
  ⟨some 15, .mv (.t 143), none⟩]))
 (.ops [⟨some 127, .mv (.t 16), none⟩,
  ⟨some 128, .bin .add (.t 127) (.k (.int .i64 1)), none⟩,
  ⟨some 16, .mv (.t 128), none⟩]))))))) .skip))))))))))))
 (.seq (.ops [⟨some 144, .ldl 5 true 11, none⟩,
  ⟨some 145, .mkl (.agg ([.int .i64 0, .int .i64 0, .int .i64 0, .list true [], .list true []])) 1 [(0, (.t 144))], none⟩,
  ⟨some 146, .call 199 [(.t 145)], none⟩,
  ⟨some 147, .len (.t 146), none⟩,
  ⟨some 148, .bin .gtr (.t 147) (.k (.int .i64 0)), none⟩,
  ⟨some 149, .mv (.t 15), none⟩,
  ⟨some 150, .eq false .bool (.t 148) (.t 149), none⟩,
  ⟨some 10, .mv (.t 150), none⟩])
 .ret)))))))))), [.tmp 10], true⟩
end Ey.Sc
