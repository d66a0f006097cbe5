/- Functions of the program, as code of the small language. Printed by seat2.py. -/
import Derived.Test.YtdkddodpioepdaaGreatDoorEyB3
namespace Ey.Lf
def I (d : Nat) (o : AOp) : AInstr := ⟨some d, o, none⟩
set_option maxRecDepth 100000
/-- eyot/class.Has -/
def a0 : AFn := ⟨2, (.seq (.ops [(I 2 (.bim 4 (.t 0))), (I 4 (.mv (.k (.bool false))))])
 (.seq (.ops [(I 5 (.mv (.t 1))), (I 6 (.bin .quo (.t 5) (.k (.int .u8 64)))), (I 7 (.ia 4 1 false (.t 2) (.t 6))), (I 8 (.ldi 1 false (.t 7))), (I 9 (.mv (.t 1))), (I 10 (.bin .rem (.t 9) (.k (.int .u8 64)))), (I 11 (.bin .shr (.t 8) (.t 10))), (I 12 (.bin .and (.t 11) (.k (.int .u64 1)))), (I 13 (.bin .eql (.t 12) (.k (.int .u64 1)))), (I 4 (.mv (.t 13)))])
 .ret)), [.tmp 4], true⟩
/-- (*eyot/dfa.maker).alike -/
def a1 : AFn := ⟨3, (.seq (.ops [(I 6 (.mv (.k (.bool false))))])
 (.seq (.seq (.ops [(I 11 (.mv (.t 0))), (I 12 (.nilc (.t 11))), (I 13 (.fa 0 1 false (.t 12))), (I 14 (.ld 1 false (.t 13))), (I 15 (.len (.t 14))), (I 16 (.mv (.k (.int .i64 0))))])
 (.block 0 (.loop [1, 2, 14, 15, 16] (.seq (.ops [(I 17 (.bin .lss (.t 16) (.t 15)))])
 (.seq (.cond (.t 17) .skip (.exit 0))
 (.seq (.block 1 (.seq (.ops [(I 18 (.ix 5 (.t 14) (.t 16))), (I 19 (.ld 5 true (.t 18))), (I 8 (.alv ([.list true [], .list true [], .list true [], .list true [], .bool false]))),
  ⟨none, .st 5 (.t 8) (.t 19), none⟩])
 (.seq (.ops [(I 20 (.fa 0 1 false (.t 8))), (I 21 (.ldp 1 false (.t 20))), (I 22 (.len (.t 21))), (I 23 (.mv (.k (.int .i64 0))))])
 (.block 2 (.loop [1, 2, 14, 15, 16, 21, 22, 23] (.seq (.ops [(I 24 (.bin .lss (.t 23) (.t 22)))])
 (.seq (.cond (.t 24) .skip (.exit 2))
 (.seq (.block 3 (.seq (.ops [(I 25 (.ix 4 (.t 21) (.t 23))), (I 26 (.ld 4 true (.t 25))), (I 10 (.alv ([.int .u64 0, .int .u64 0, .int .u64 0, .int .u64 0]))),
  ⟨none, .st 4 (.t 10) (.t 26), none⟩])
 (.seq (.dops [(I 27 (.ldl 4 true 10)), (I 28 (.mv (.t 1))), (I 29 (.call 0 [(.t 27), (.t 28)])), (I 30 (.ldl 4 true 10)), (I 31 (.mv (.t 2))), (I 32 (.call 0 [(.t 30), (.t 31)])), (I 33 (.eq true .bool (.t 29) (.t 32)))])
 (.cond (.t 33) (.seq (.ops [(I 6 (.mv (.k (.bool false))))])
 .ret) .skip))))
 (.ops [(I 34 (.bin .add (.t 23) (.k (.int .i64 1)))), (I 23 (.mv (.t 34)))])))))))))
 (.ops [(I 35 (.bin .add (.t 16) (.k (.int .i64 1)))), (I 16 (.mv (.t 35)))])))))))
 (.seq (.ops [(I 6 (.mv (.k (.bool true))))])
 .ret))), [.tmp 6], true⟩
/-- (*eyot/dfa.maker).first -/
def a2 : AFn := ⟨1, (.seq (.ops [(I 2 (.mv (.k (.list true []))))])
 (.seq (.ops [(I 3 (.mv (.k (.list true []))))])
 (.seq (.seq (.ops [(I 8 (.mv (.t 0))), (I 9 (.nilc (.t 8))), (I 10 (.fa 0 1 false (.t 9))), (I 11 (.ld 1 false (.t 10))), (I 12 (.len (.t 11))), (I 13 (.mv (.k (.int .i64 0))))])
 (.block 0 (.loop [3, 11, 12, 13] (.seq (.ops [(I 14 (.bin .lss (.t 13) (.t 12)))])
 (.seq (.cond (.t 14) .skip (.exit 0))
 (.seq (.block 1 (.seq (.ops [(I 15 (.mv (.t 13))), (I 16 (.ix 5 (.t 11) (.t 13))), (I 17 (.ld 5 true (.t 16))), (I 5 (.alv ([.list true [], .list true [], .list true [], .list true [], .bool false]))), (I 4 (.mv (.t 15))),
  ⟨none, .st 5 (.t 5) (.t 17), none⟩])
 (.seq (.ops [(I 18 (.fa 1 1 false (.t 5))), (I 19 (.ldp 1 false (.t 18))), (I 20 (.len (.t 19))), (I 21 (.mv (.k (.int .i64 0))))])
 (.block 2 (.loop [3, 4, 11, 12, 13, 19, 20, 21] (.seq (.ops [(I 22 (.bin .lss (.t 21) (.t 20)))])
 (.seq (.cond (.t 22) .skip (.exit 2))
 (.seq (.block 3 (.seq (.ops [(I 23 (.ix 1 (.t 19) (.t 21))), (I 24 (.ld 1 false (.t 23))), (I 7 (.mv (.t 24)))])
 (.ops [(I 25 (.mv (.t 3))), (I 26 (.mv (.t 4))), (I 27 (.mv (.t 7))), (I 28 (.bld (.agg ([.int .i64 0, .int .i64 0])) [((0, 1), (.t 26)), ((1, 1), (.t 27))])), (I 29 (.mkl (.agg ([.int .i64 0, .int .i64 0])) 1 [(0, (.t 28))])), (I 30 (.app 2 (.t 25) (.t 29))), (I 3 (.mv (.t 30)))])))
 (.ops [(I 31 (.bin .add (.t 21) (.k (.int .i64 1)))), (I 21 (.mv (.t 31)))])))))))))
 (.ops [(I 32 (.bin .add (.t 13) (.k (.int .i64 1)))), (I 13 (.mv (.t 32)))])))))))
 (.seq (.ops [(I 33 (.mv (.t 3))), (I 2 (.mv (.t 33)))])
 (.seq (.ops [⟨none, .frz (.sl .no) 2, none⟩]) .ret))))), [.tmp 2], true⟩
/-- slices.SortFunc[[]eyot/dfa.spot,eyot/dfa.spot] -/
def a3 : AFn := ⟨2, (.seq (.ops [(I 5 (.mv (.t 0))), (I 6 (.len (.t 5))), (I 4 (.mv (.t 6)))])
 (.ops [(I 7 (.mv (.t 0))), (I 8 (.mv (.t 4))), (I 9 (.mv (.t 4))), (I 10 (.cvi .u64 (.t 9))), (I 11 (.call 32 [(.t 10)])), (I 12 (.mv (.t 1))), (I 13 (.call 35 [(.t 7), (.k (.int .i64 0)), (.t 8), (.t 11), (.t 12)]))])), [], false⟩
/-- eyot/dfa.before -/
def a4 : AFn := ⟨2, (.seq (.ops [(I 2 (.bim 2 (.t 0))), (I 3 (.bim 2 (.t 1))), (I 4 (.mv (.k (.int .i64 0))))])
 (.seq (.seq (.ops [(I 5 (.fa 0 1 false (.t 2))), (I 6 (.ldi 1 false (.t 5))), (I 7 (.fa 0 1 false (.t 3))), (I 8 (.ldi 1 false (.t 7))), (I 9 (.bin .neq (.t 6) (.t 8)))])
 (.cond (.t 9) (.seq (.ops [(I 10 (.fa 0 1 false (.t 2))), (I 11 (.ldi 1 false (.t 10))), (I 12 (.fa 0 1 false (.t 3))), (I 13 (.ldi 1 false (.t 12))), (I 14 (.bin .sub (.t 11) (.t 13))), (I 4 (.mv (.t 14)))])
 .ret) .skip))
 (.seq (.ops [(I 15 (.fa 1 1 false (.t 2))), (I 16 (.ldi 1 false (.t 15))), (I 17 (.fa 1 1 false (.t 3))), (I 18 (.ldi 1 false (.t 17))), (I 19 (.bin .sub (.t 16) (.t 18))), (I 4 (.mv (.t 19)))])
 .ret))), [.tmp 4], true⟩
/-- slices.Compact[[]eyot/dfa.spot,eyot/dfa.spot] -/
def a5 : AFn := ⟨1, (.seq (.ops [(I 2 (.mv (.k (.list true []))))])
 (.seq (.seq (.ops [(I 6 (.mv (.t 0))), (I 7 (.len (.t 6))), (I 8 (.bin .lss (.t 7) (.k (.int .i64 2))))])
 (.cond (.t 8) (.seq (.ops [(I 9 (.mv (.t 0))), (I 2 (.mv (.t 9)))])
 .ret) .skip))
 (.seq (.seq (.ops [(I 3 (.mv (.k (.int .i64 1))))])
 (.block 0 (.loop [0, 3] (.seq (.seq (.ops [(I 10 (.mv (.t 3))), (I 11 (.mv (.t 0))), (I 12 (.len (.t 11))), (I 13 (.bin .lss (.t 10) (.t 12)))])
 (.cond (.t 13) .skip (.exit 0)))
 (.seq (.block 1 (.seq (.dops [(I 16 (.mv (.t 0))), (I 17 (.mv (.t 3))), (I 18 (.ix 2 (.t 16) (.t 17))), (I 19 (.ld 2 true (.t 18))), (I 20 (.mv (.t 0))), (I 21 (.mv (.t 3))), (I 22 (.bin .sub (.t 21) (.k (.int .i64 1)))), (I 23 (.ix 2 (.t 20) (.t 22))), (I 24 (.ld 2 true (.t 23))), (I 25 (.eq false (.agg [.i, .i]) (.t 19) (.t 24)))])
 (.cond (.t 25) (.seq (.ops [(I 26 (.mv (.t 0))), (I 27 (.mv (.t 3))), (I 28 (.sl 2 (.t 26) (some (.t 27)) none none)), (I 4 (.mv (.t 28)))])
 (.seq (.seq (.ops [(I 5 (.mv (.k (.int .i64 1))))])
 (.block 2 (.loop [0, 3, 4, 5] (.seq (.seq (.ops [(I 29 (.mv (.t 5))), (I 30 (.mv (.t 4))), (I 31 (.len (.t 30))), (I 32 (.bin .lss (.t 29) (.t 31)))])
 (.cond (.t 32) .skip (.exit 2)))
 (.seq (.block 3 (.seq (.dops [(I 35 (.mv (.t 4))), (I 36 (.mv (.t 5))), (I 37 (.ix 2 (.t 35) (.t 36))), (I 38 (.ld 2 true (.t 37))), (I 39 (.mv (.t 4))), (I 40 (.mv (.t 5))), (I 41 (.bin .sub (.t 40) (.k (.int .i64 1)))), (I 42 (.ix 2 (.t 39) (.t 41))), (I 43 (.ld 2 true (.t 42))), (I 44 (.eq true (.agg [.i, .i]) (.t 38) (.t 43)))])
 (.cond (.t 44) (.seq (.ops [(I 45 (.mv (.t 0))), (I 46 (.mv (.t 3))), (I 47 (.mv (.t 4))), (I 48 (.mv (.t 5))), (I 49 (.ix 2 (.t 47) (.t 48))), (I 50 (.ld 2 true (.t 49))), (I 51 (.ix 2 (.t 45) (.t 46))),
  ⟨none, .st 2 (.t 51) (.t 50), none⟩])
 (.ops [(I 52 (.mv (.t 3))), (I 53 (.bin .add (.t 52) (.k (.int .i64 1)))), (I 3 (.mv (.t 53)))])) .skip)))
 (.ops [(I 33 (.mv (.t 5))), (I 34 (.bin .add (.t 33) (.k (.int .i64 1)))), (I 5 (.mv (.t 34)))]))))))
 (.seq (.ops [(I 54 (.mv (.t 0))), (I 55 (.mv (.t 3))), (I 56 (.sl 2 (.t 54) (some (.t 55)) none none)),
  ⟨none, .clr 2 (.agg ([.int .i64 0, .int .i64 0])) (.t 56), none⟩])
 (.seq (.ops [(I 57 (.mv (.t 0))), (I 58 (.mv (.t 3))), (I 59 (.sl 2 (.t 57) none (some (.t 58)) none)), (I 2 (.mv (.t 59)))])
 .ret)))) .skip)))
 (.ops [(I 14 (.mv (.t 3))), (I 15 (.bin .add (.t 14) (.k (.int .i64 1)))), (I 3 (.mv (.t 15)))]))))))
 (.seq (.ops [(I 60 (.mv (.t 0))), (I 2 (.mv (.t 60)))])
 .ret)))), [.tmp 2], false⟩
/-- (*eyot/dfa.maker).behind -/
def a6 : AFn := ⟨2, (.seq (.ops [(I 4 (.mv (.k (.list true []))))])
 (.seq (.ops [(I 5 (.mv (.k (.list true []))))])
 (.seq (.seq (.ops [(I 10 (.mv (.t 1))), (I 11 (.len (.t 10))), (I 12 (.mv (.k (.int .i64 0))))])
 (.block 0 (.loop [0, 5, 10, 11, 12] (.seq (.ops [(I 13 (.bin .lss (.t 12) (.t 11)))])
 (.seq (.cond (.t 13) .skip (.exit 0))
 (.seq (.block 1 (.seq (.ops [(I 14 (.ix 2 (.t 10) (.t 12))), (I 15 (.ld 2 true (.t 14))), (I 7 (.alv ([.int .i64 0, .int .i64 0]))),
  ⟨none, .st 2 (.t 7) (.t 15), none⟩])
 (.seq (.dops [(I 16 (.mv (.t 0))), (I 17 (.nilc (.t 16))), (I 18 (.fa 0 1 false (.t 17))), (I 19 (.ldo 1 false (.t 18))), (I 20 (.fa 0 1 false (.t 7))), (I 21 (.ldp 1 false (.t 20))), (I 22 (.ix 5 (.t 19) (.t 21))), (I 23 (.fa 3 1 false (.t 22))), (I 24 (.ld 1 false (.t 23))), (I 25 (.fa 1 1 false (.t 7))), (I 26 (.ldp 1 false (.t 25))), (I 27 (.ix 1 (.t 24) (.t 26))), (I 28 (.ld 1 false (.t 27))), (I 29 (.len (.t 28))), (I 30 (.mv (.k (.int .i64 0))))])
 (.block 2 (.loop [0, 5, 7, 10, 11, 12, 28, 29, 30] (.seq (.ops [(I 31 (.bin .lss (.t 30) (.t 29)))])
 (.seq (.cond (.t 31) .skip (.exit 2))
 (.seq (.block 3 (.seq (.ops [(I 32 (.ix 1 (.t 28) (.t 30))), (I 33 (.ld 1 false (.t 32))), (I 9 (.mv (.t 33)))])
 (.ops [(I 34 (.mv (.t 5))), (I 35 (.fa 0 1 false (.t 7))), (I 36 (.ldp 1 false (.t 35))), (I 37 (.mv (.t 9))), (I 38 (.bld (.agg ([.int .i64 0, .int .i64 0])) [((0, 1), (.t 36)), ((1, 1), (.t 37))])), (I 39 (.mkl (.agg ([.int .i64 0, .int .i64 0])) 1 [(0, (.t 38))])), (I 40 (.app 2 (.t 34) (.t 39))), (I 5 (.mv (.t 40)))])))
 (.ops [(I 41 (.bin .add (.t 30) (.k (.int .i64 1)))), (I 30 (.mv (.t 41)))])))))))))
 (.ops [(I 42 (.bin .add (.t 12) (.k (.int .i64 1)))), (I 12 (.mv (.t 42)))])))))))
 (.seq (.ops [(I 43 (.mv (.t 5))), (I 44 (.call 3 [(.t 43), (.k (.fn 4 []))]))])
 (.seq (.ops [(I 45 (.mv (.t 5))), (I 46 (.call 5 [(.t 45)])), (I 4 (.mv (.t 46)))])
 (.seq (.ops [⟨none, .frz (.sl .no) 4, none⟩]) .ret)))))), [.tmp 4], true⟩
/-- (*eyot/dfa.maker).classes$1 -/
def a7 : AFn := ⟨3, (.seq (.ops [(I 4 (.mv (.k (.bool false))))])
 (.seq (.ops [(I 5 (.ld 1 false (.t 1))), (I 6 (.mv (.t 0))), (I 7 (.ld 1 false (.t 2))), (I 8 (.cvi .u8 (.t 7))), (I 9 (.call 1 [(.t 5), (.t 6), (.t 8)])), (I 4 (.mv (.t 9)))])
 .ret)), [.tmp 4], true⟩
/-- slices.IndexFunc[[]byte,byte] -/
def a8 : AFn := ⟨2, (.seq (.ops [(I 4 (.mv (.k (.int .i64 0))))])
 (.seq (.seq (.ops [(I 6 (.mv (.t 0))), (I 7 (.len (.t 6))), (I 8 (.mv (.k (.int .i64 0))))])
 (.block 0 (.loop [0, 1, 7, 8] (.seq (.ops [(I 9 (.bin .lss (.t 8) (.t 7)))])
 (.seq (.cond (.t 9) .skip (.exit 0))
 (.seq (.block 1 (.seq (.ops [(I 10 (.mv (.t 8))), (I 5 (.mv (.t 10)))])
 (.seq (.ops [(I 11 (.mv (.t 1))), (I 12 (.mv (.t 0))), (I 13 (.mv (.t 5))), (I 14 (.ix 1 (.t 12) (.t 13))), (I 15 (.ld 1 false (.t 14))), (I 16 (.callv (.t 11) [(.t 15)]))])
 (.cond (.t 16) (.seq (.ops [(I 17 (.mv (.t 5))), (I 4 (.mv (.t 17)))])
 .ret) .skip))))
 (.ops [(I 18 (.bin .add (.t 8) (.k (.int .i64 1)))), (I 8 (.mv (.t 18)))])))))))
 (.seq (.ops [(I 4 (.mv (.k (.int .i64 (-1)))))])
 .ret))), [.tmp 4], true⟩
/-- (*eyot/dfa.maker).classes -/
def a9 : AFn := ⟨1, (.seq (.ops [(I 1 (.bob 1 (.t 0)))])
 (.seq (.ops [(I 4 (.mv (.k (.int .i64 0))))])
 (.block 0 (.loop [1, 4] (.seq (.ops [(I 5 (.bin .lss (.t 4) (.k (.int .i64 256))))])
 (.seq (.cond (.t 5) .skip (.exit 0))
 (.seq (.block 1 (.seq (.ops [(I 6 (.mv (.t 4))), (I 2 (.aob ([.int .i64 0]))),
  ⟨none, .st 1 (.t 2) (.t 6), none⟩])
 (.seq (.ops [(I 7 (.ldo 1 false (.t 1))), (I 8 (.nilc (.t 7))), (I 9 (.fa 259 1 false (.t 8))), (I 10 (.ld 1 false (.t 9))), (I 11 (.mkfn 7 [(.t 1), (.t 2)])), (I 12 (.call 8 [(.t 10), (.t 11)])), (I 3 (.mv (.t 12)))])
 (.seq (.seq (.ops [(I 13 (.mv (.t 3))), (I 14 (.bin .lss (.t 13) (.k (.int .i64 0))))])
 (.cond (.t 14) (.seq (.ops [(I 15 (.ldo 1 false (.t 1))), (I 16 (.nilc (.t 15))), (I 17 (.fa 259 1 false (.t 16))), (I 18 (.ld 1 false (.t 17))), (I 19 (.len (.t 18))), (I 3 (.mv (.t 19)))])
 (.dops [(I 20 (.ldo 1 false (.t 1))), (I 21 (.ldo 1 false (.t 1))), (I 22 (.nilc (.t 21))), (I 23 (.fa 259 1 false (.t 22))), (I 24 (.ld 1 false (.t 23))), (I 25 (.ldo 1 false (.t 2))), (I 26 (.cvi .u8 (.t 25))), (I 27 (.mkl (.int .u8 0) 1 [(0, (.t 26))])), (I 28 (.app 1 (.t 24) (.t 27))), (I 29 (.nilc (.t 20))), (I 30 (.fa 259 1 false (.t 29))),
  ⟨none, .st 1 (.t 30) (.t 28), none⟩])) .skip))
 (.dops [(I 31 (.ldo 1 false (.t 1))), (I 32 (.ldo 1 false (.t 2))), (I 33 (.mv (.t 3))), (I 34 (.cvi .u8 (.t 33))), (I 35 (.nilc (.t 31))), (I 36 (.fa 1 258 true (.t 35))), (I 37 (.fa 0 256 true (.t 36))), (I 38 (.ia 256 1 false (.t 37) (.t 32))),
  ⟨none, .st 1 (.t 38) (.t 34), none⟩])))))
 (.ops [(I 39 (.bin .add (.t 4) (.k (.int .i64 1)))), (I 4 (.mv (.t 39)))])))))))), [], false⟩
/-- slices.Contains[[]int,int] -/
def a10 : AFn := ⟨2, (.seq (.ops [(I 4 (.mv (.k (.bool false))))])
 (.seq (.ops [(I 5 (.mv (.t 0))), (I 6 (.mv (.t 1))), (I 7 (.call 34 [(.t 5), (.t 6)])), (I 8 (.bin .geq (.t 7) (.k (.int .i64 0)))), (I 4 (.mv (.t 8)))])
 .ret)), [.tmp 4], true⟩
/-- (*eyot/dfa.maker).ends -/
def a11 : AFn := ⟨2, (.seq (.ops [(I 4 (.mv (.k (.int .i64 0))))])
 (.seq (.seq (.ops [(I 7 (.mv (.t 1))), (I 8 (.len (.t 7))), (I 9 (.mv (.k (.int .i64 0))))])
 (.block 0 (.loop [0, 7, 8, 9] (.seq (.ops [(I 10 (.bin .lss (.t 9) (.t 8)))])
 (.seq (.cond (.t 10) .skip (.exit 0))
 (.seq (.block 1 (.seq (.ops [(I 11 (.ix 2 (.t 7) (.t 9))), (I 12 (.ld 2 true (.t 11))), (I 6 (.alv ([.int .i64 0, .int .i64 0]))),
  ⟨none, .st 2 (.t 6) (.t 12), none⟩])
 (.seq (.dops [(I 13 (.mv (.t 0))), (I 14 (.nilc (.t 13))), (I 15 (.fa 0 1 false (.t 14))), (I 16 (.ldo 1 false (.t 15))), (I 17 (.fa 0 1 false (.t 6))), (I 18 (.ldp 1 false (.t 17))), (I 19 (.ix 5 (.t 16) (.t 18))), (I 20 (.fa 2 1 false (.t 19))), (I 21 (.ld 1 false (.t 20))), (I 22 (.fa 1 1 false (.t 6))), (I 23 (.ldp 1 false (.t 22))), (I 24 (.call 10 [(.t 21), (.t 23)]))])
 (.cond (.t 24) (.seq (.ops [(I 25 (.fa 0 1 false (.t 6))), (I 26 (.ldp 1 false (.t 25))), (I 4 (.mv (.t 26)))])
 .ret) .skip))))
 (.ops [(I 27 (.bin .add (.t 9) (.k (.int .i64 1)))), (I 9 (.mv (.t 27)))])))))))
 (.seq (.ops [(I 4 (.mv (.k (.int .i64 (-1)))))])
 .ret))), [.tmp 4], true⟩
/-- (*eyot/dfa.maker).to -/
def a12 : AFn := ⟨2, (.seq (.ops [(I 3 (.bob 1 (.t 1))), (I 4 (.mv (.k (.int .i64 0))))])
 (.seq (.seq (.ops [(I 6 (.ldo 1 false (.t 3))), (I 7 (.len (.t 6))), (I 8 (.bin .eql (.t 7) (.k (.int .i64 0))))])
 (.cond (.t 8) (.seq (.ops [(I 4 (.mv (.k (.int .i64 (-1)))))])
 .ret) .skip))
 (.seq (.ops [(I 9 (.mv (.t 0))), (I 10 (.nilc (.t 9))), (I 11 (.fa 260 1 false (.t 10))), (I 12 (.ld 1 false (.t 11))), (I 13 (.mkfn 14 [(.t 3)])), (I 14 (.call 15 [(.t 12), (.t 13)])), (I 5 (.mv (.t 14)))])
 (.seq (.seq (.ops [(I 15 (.mv (.t 5))), (I 16 (.bin .lss (.t 15) (.k (.int .i64 0))))])
 (.cond (.t 16) (.seq (.ops [(I 17 (.mv (.t 0))), (I 18 (.nilc (.t 17))), (I 19 (.fa 260 1 false (.t 18))), (I 20 (.ld 1 false (.t 19))), (I 21 (.len (.t 20))), (I 5 (.mv (.t 21)))])
 (.seq (.dops [(I 22 (.mv (.t 0))), (I 23 (.mv (.t 0))), (I 24 (.nilc (.t 23))), (I 25 (.fa 260 1 false (.t 24))), (I 26 (.ldo 1 false (.t 25))), (I 27 (.ldo 1 false (.t 3))), (I 28 (.mkl (.list true []) 1 [(0, (.t 27))])), (I 29 (.app 1 (.t 26) (.t 28))), (I 30 (.nilc (.t 22))), (I 31 (.fa 260 1 false (.t 30))),
  ⟨none, .sto 1 (.t 31) (.t 29), none⟩])
 (.dops [(I 32 (.mv (.t 0))), (I 33 (.mv (.t 0))), (I 34 (.nilc (.t 33))), (I 35 (.fa 1 258 true (.t 34))), (I 36 (.fa 257 1 false (.t 35))), (I 37 (.ldo 1 false (.t 36))), (I 38 (.mv (.t 0))), (I 39 (.ldo 1 false (.t 3))), (I 40 (.call 11 [(.t 38), (.t 39)])), (I 41 (.mkl (.int .i64 0) 1 [(0, (.t 40))])), (I 42 (.app 1 (.t 37) (.t 41))), (I 43 (.nilc (.t 32))), (I 44 (.fa 1 258 true (.t 43))), (I 45 (.fa 257 1 false (.t 44))),
  ⟨none, .sto 1 (.t 45) (.t 42), none⟩]))) .skip))
 (.seq (.ops [(I 46 (.mv (.t 5))), (I 47 (.bin .add (.t 46) (.k (.int .i64 1)))), (I 4 (.mv (.t 47)))])
 .ret))))), [.tmp 4], false⟩
/-- (*eyot/dfa.maker).row -/
def a13 : AFn := ⟨2, (.seq (.ops [(I 4 (.mv (.k (.list true []))))])
 (.seq (.ops [(I 5 (.mv (.k (.list true []))))])
 (.seq (.seq (.ops [(I 11 (.mv (.t 0))), (I 12 (.nilc (.t 11))), (I 13 (.fa 259 1 false (.t 12))), (I 14 (.ld 1 false (.t 13))), (I 15 (.len (.t 14))), (I 16 (.mv (.k (.int .i64 0))))])
 (.block 0 (.loop [0, 1, 5, 14, 15, 16] (.seq (.ops [(I 17 (.bin .lss (.t 16) (.t 15)))])
 (.seq (.cond (.t 17) .skip (.exit 0))
 (.seq (.block 1 (.seq (.ops [(I 18 (.ix 1 (.t 14) (.t 16))), (I 19 (.ld 1 false (.t 18))), (I 7 (.mv (.t 19)))])
 (.seq (.ops [(I 8 (.mv (.k (.list true []))))])
 (.seq (.seq (.ops [(I 20 (.mv (.t 1))), (I 21 (.len (.t 20))), (I 22 (.mv (.k (.int .i64 0))))])
 (.block 2 (.loop [0, 1, 5, 7, 8, 14, 15, 16, 20, 21, 22] (.seq (.ops [(I 23 (.bin .lss (.t 22) (.t 21)))])
 (.seq (.cond (.t 23) .skip (.exit 2))
 (.seq (.block 3 (.seq (.ops [(I 24 (.ix 2 (.t 20) (.t 22))), (I 25 (.ld 2 true (.t 24))), (I 10 (.alv ([.int .i64 0, .int .i64 0]))),
  ⟨none, .st 2 (.t 10) (.t 25), none⟩])
 (.seq (.dops [(I 26 (.mv (.t 0))), (I 27 (.nilc (.t 26))), (I 28 (.fa 0 1 false (.t 27))), (I 29 (.ldo 1 false (.t 28))), (I 30 (.fa 0 1 false (.t 10))), (I 31 (.ldp 1 false (.t 30))), (I 32 (.ix 5 (.t 29) (.t 31))), (I 33 (.fa 0 1 false (.t 32))), (I 34 (.ld 1 false (.t 33))), (I 35 (.fa 1 1 false (.t 10))), (I 36 (.ldp 1 false (.t 35))), (I 37 (.ix 4 (.t 34) (.t 36))), (I 38 (.ld 4 true (.t 37))), (I 39 (.mv (.t 7))), (I 40 (.call 0 [(.t 38), (.t 39)]))])
 (.cond (.t 40) (.ops [(I 41 (.mv (.t 8))), (I 42 (.ldl 2 true 10)), (I 43 (.mkl (.agg ([.int .i64 0, .int .i64 0])) 1 [(0, (.t 42))])), (I 44 (.app 2 (.t 41) (.t 43))), (I 8 (.mv (.t 44)))]) .skip))))
 (.ops [(I 45 (.bin .add (.t 22) (.k (.int .i64 1)))), (I 22 (.mv (.t 45)))])))))))
 (.ops [(I 46 (.mv (.t 5))), (I 47 (.mv (.t 0))), (I 48 (.mv (.t 8))), (I 49 (.call 12 [(.t 47), (.t 48)])), (I 50 (.mkl (.int .i64 0) 1 [(0, (.t 49))])), (I 51 (.app 1 (.t 46) (.t 50))), (I 5 (.mv (.t 51)))])))))
 (.ops [(I 52 (.bin .add (.t 16) (.k (.int .i64 1)))), (I 16 (.mv (.t 52)))])))))))
 (.seq (.ops [(I 53 (.mv (.t 5))), (I 4 (.mv (.t 53)))])
 .ret)))), [.tmp 4], false⟩
/-- (*eyot/dfa.maker).to$1 -/
def a14 : AFn := ⟨2, (.seq (.ops [(I 3 (.mv (.k (.bool false))))])
 (.seq (.ops [(I 4 (.mv (.t 0))), (I 5 (.ld 1 false (.t 1))), (I 6 (.call 16 [(.t 4), (.t 5)])), (I 3 (.mv (.t 6)))])
 .ret)), [.tmp 3], true⟩
/-- slices.IndexFunc[[][]eyot/dfa.spot,[]eyot/dfa.spot] -/
def a15 : AFn := ⟨2, (.seq (.ops [(I 4 (.mv (.k (.int .i64 0))))])
 (.seq (.seq (.ops [(I 6 (.mv (.t 0))), (I 7 (.len (.t 6))), (I 8 (.mv (.k (.int .i64 0))))])
 (.block 0 (.loop [0, 1, 7, 8] (.seq (.ops [(I 9 (.bin .lss (.t 8) (.t 7)))])
 (.seq (.cond (.t 9) .skip (.exit 0))
 (.seq (.block 1 (.seq (.ops [(I 10 (.mv (.t 8))), (I 5 (.mv (.t 10)))])
 (.seq (.ops [(I 11 (.mv (.t 1))), (I 12 (.mv (.t 0))), (I 13 (.mv (.t 5))), (I 14 (.ix 1 (.t 12) (.t 13))), (I 15 (.ld 1 false (.t 14))), (I 16 (.callv (.t 11) [(.t 15)]))])
 (.cond (.t 16) (.seq (.ops [(I 17 (.mv (.t 5))), (I 4 (.mv (.t 17)))])
 .ret) .skip))))
 (.ops [(I 18 (.bin .add (.t 8) (.k (.int .i64 1)))), (I 8 (.mv (.t 18)))])))))))
 (.seq (.ops [(I 4 (.mv (.k (.int .i64 (-1)))))])
 .ret))), [.tmp 4], true⟩
/-- slices.Equal[[]eyot/dfa.spot,eyot/dfa.spot] -/
def a16 : AFn := ⟨2, (.seq (.ops [(I 4 (.mv (.k (.bool false))))])
 (.seq (.seq (.ops [(I 6 (.mv (.t 0))), (I 7 (.len (.t 6))), (I 8 (.mv (.t 1))), (I 9 (.len (.t 8))), (I 10 (.bin .neq (.t 7) (.t 9)))])
 (.cond (.t 10) (.seq (.ops [(I 4 (.mv (.k (.bool false))))])
 .ret) .skip))
 (.seq (.seq (.ops [(I 11 (.mv (.t 0))), (I 12 (.len (.t 11))), (I 13 (.mv (.k (.int .i64 0))))])
 (.block 0 (.loop [0, 1, 12, 13] (.seq (.ops [(I 14 (.bin .lss (.t 13) (.t 12)))])
 (.seq (.cond (.t 14) .skip (.exit 0))
 (.seq (.block 1 (.seq (.ops [(I 15 (.mv (.t 13))), (I 5 (.mv (.t 15)))])
 (.seq (.dops [(I 16 (.mv (.t 0))), (I 17 (.mv (.t 5))), (I 18 (.ix 2 (.t 16) (.t 17))), (I 19 (.ld 2 true (.t 18))), (I 20 (.mv (.t 1))), (I 21 (.mv (.t 5))), (I 22 (.ix 2 (.t 20) (.t 21))), (I 23 (.ld 2 true (.t 22))), (I 24 (.eq true (.agg [.i, .i]) (.t 19) (.t 23)))])
 (.cond (.t 24) (.seq (.ops [(I 4 (.mv (.k (.bool false))))])
 .ret) .skip))))
 (.ops [(I 25 (.bin .add (.t 13) (.k (.int .i64 1)))), (I 13 (.mv (.t 25)))])))))))
 (.seq (.ops [(I 4 (.mv (.k (.bool true))))])
 .ret)))), [.tmp 4], true⟩
/-- eyot/place.also -/
def a17 : AFn := ⟨2, (.seq (.ops [(I 4 (.mv (.k (.list true []))))])
 (.seq (.ops [(I 6 (.mv (.t 0))), (I 7 (.mv (.t 1))), (I 8 (.mkl (.list true []) 2 [(0, (.t 6)), (1, (.t 7))])), (I 9 (.call 25 [(.t 8)])), (I 5 (.mv (.t 9)))])
 (.seq (.ops [(I 10 (.mv (.t 5))), (I 11 (.call 26 [(.t 10)]))])
 (.seq (.ops [(I 12 (.mv (.t 5))), (I 13 (.call 27 [(.t 12)])), (I 4 (.mv (.t 13)))])
 (.seq (.ops [⟨none, .frz (.sl .no) 4, none⟩]) .ret))))), [.tmp 4], true⟩
/-- (*eyot/place.Places).links -/
def a18 : AFn := ⟨3, (.seq (.ops [(I 8 (.mv (.t 1))), (I 9 (.len (.t 8))), (I 10 (.mv (.k (.int .i64 0))))])
 (.block 0 (.loop [0, 2, 8, 9, 10] (.seq (.ops [(I 11 (.bin .lss (.t 10) (.t 9)))])
 (.seq (.cond (.t 11) .skip (.exit 0))
 (.seq (.block 1 (.seq (.ops [(I 12 (.ix 1 (.t 8) (.t 10))), (I 13 (.ld 1 false (.t 12))), (I 7 (.mv (.t 13)))])
 (.dops [(I 14 (.mv (.t 0))), (I 15 (.nilc (.t 14))), (I 16 (.fa 3 1 false (.t 15))), (I 17 (.ldo 1 false (.t 16))), (I 18 (.mv (.t 7))), (I 19 (.mv (.t 0))), (I 20 (.nilc (.t 19))), (I 21 (.fa 3 1 false (.t 20))), (I 22 (.ldo 1 false (.t 21))), (I 23 (.mv (.t 7))), (I 24 (.ix 1 (.t 22) (.t 23))), (I 25 (.ld 1 false (.t 24))), (I 26 (.mv (.t 2))), (I 27 (.call 17 [(.t 25), (.t 26)])), (I 28 (.ix 1 (.t 17) (.t 18))),
  ⟨none, .st 1 (.t 28) (.t 27), none⟩])))
 (.ops [(I 29 (.bin .add (.t 10) (.k (.int .i64 1)))), (I 10 (.mv (.t 29)))]))))))), [], false⟩
/-- (*eyot/place.Places).walk -/
def a19 : AFn := ⟨2, (.seq (.ops [(I 3 (.bim 6 (.t 1))), (I 4 (.alv ([.list true [], .list true [], .bool false])))])
 (.seq (.seq (.ops [(I 15 (.fa 0 1 false (.t 3))), (I 16 (.ldi 1 false (.t 15)))])
 (.block 0 (.seq (.ops [(I 18 (.bin .eql (.t 16) (.k (.int .i64 1)))), (I 17 (.mv (.t 18)))])
 (.cond (.t 17) (.seq (.ops [(I 19 (.mv (.t 0))), (I 20 (.nilc (.t 19))), (I 21 (.fa 0 1 false (.t 20))), (I 22 (.ld 1 false (.t 21))), (I 23 (.len (.t 22))), (I 5 (.mv (.t 23)))])
 (.seq (.dops [(I 24 (.mv (.t 0))), (I 25 (.mv (.t 0))), (I 26 (.mv (.t 0))), (I 27 (.nilc (.t 26))), (I 28 (.fa 0 1 false (.t 27))), (I 29 (.ldo 1 false (.t 28))), (I 30 (.fa 1 4 true (.t 3))), (I 31 (.ldi 4 true (.t 30))), (I 32 (.mkl (.agg ([.int .u64 0, .int .u64 0, .int .u64 0, .int .u64 0])) 1 [(0, (.t 31))])), (I 33 (.app 4 (.t 29) (.t 32))), (I 34 (.mv (.t 0))), (I 35 (.nilc (.t 34))), (I 36 (.fa 3 1 false (.t 35))), (I 37 (.ldo 1 false (.t 36))), (I 38 (.mkl (.list true []) 1 [(0, (.k (.list true [])))])), (I 39 (.app 1 (.t 37) (.t 38))), (I 40 (.nilc (.t 24))), (I 41 (.fa 0 1 false (.t 40))),
  ⟨none, .sto 1 (.t 41) (.t 33), none⟩, (I 42 (.nilc (.t 25))), (I 43 (.fa 3 1 false (.t 42))),
  ⟨none, .sto 1 (.t 43) (.t 39), none⟩])
 (.seq (.ops [(I 44 (.mv (.t 5))), (I 45 (.mkl (.int .i64 0) 1 [(0, (.t 44))])), (I 46 (.mv (.t 5))), (I 47 (.mkl (.int .i64 0) 1 [(0, (.t 46))])), (I 48 (.bld (.agg ([.list true [], .list true [], .bool false])) [((0, 1), (.t 45)), ((1, 1), (.t 47)), ((2, 1), (.k (.bool false)))])),
  ⟨none, .st 3 (.t 4) (.t 48), none⟩])
 .ret))) (.seq (.ops [(I 50 (.bin .eql (.t 16) (.k (.int .i64 2)))), (I 49 (.mv (.t 50)))])
 (.cond (.t 49) (.seq (.ops [(I 51 (.bld (.agg ([.list true [], .list true [], .bool false])) [((2, 1), (.k (.bool true)))])), (I 6 (.alv ([.list true [], .list true [], .bool false]))),
  ⟨none, .st 3 (.t 6) (.t 51), none⟩])
 (.seq (.seq (.ops [(I 52 (.fa 5 1 false (.t 3))), (I 53 (.ldi 1 false (.t 52))), (I 54 (.len (.t 53))), (I 55 (.mv (.k (.int .i64 0))))])
 (.block 1 (.loop [0, 4, 6, 53, 54, 55, 91, 92] (.seq (.ops [(I 56 (.bin .lss (.t 55) (.t 54)))])
 (.seq (.cond (.t 56) .skip (.exit 1))
 (.seq (.block 2 (.seq (.ops [(I 57 (.ix 6 (.t 53) (.t 55))), (I 58 (.ld 6 true (.t 57))), (I 8 (.alv ([.int .i64 0, .int .u64 0, .int .u64 0, .int .u64 0, .int .u64 0, .list true []]))),
  ⟨none, .st 6 (.t 8) (.t 58), none⟩])
 (.seq (.ops [(I 59 (.mv (.t 0))), (I 60 (.ldl 6 true 8)), (I 61 (.call 19 [(.t 59), (.t 60)])), (I 9 (.alv ([.list true [], .list true [], .bool false]))),
  ⟨none, .st 3 (.t 9) (.t 61), none⟩])
 (.seq (.ops [(I 62 (.mv (.t 0))), (I 63 (.fa 1 1 false (.t 6))), (I 64 (.ldp 1 false (.t 63))), (I 65 (.fa 0 1 false (.t 9))), (I 66 (.ldp 1 false (.t 65))), (I 67 (.call 18 [(.t 62), (.t 64), (.t 66)]))])
 (.seq (.seq (.ops [(I 68 (.fa 2 1 false (.t 6))), (I 69 (.ldp 1 false (.t 68)))])
 (.cond (.t 69) (.ops [(I 70 (.fa 0 1 false (.t 6))), (I 71 (.ldp 1 false (.t 70))), (I 72 (.fa 0 1 false (.t 9))), (I 73 (.ldp 1 false (.t 72))), (I 74 (.call 17 [(.t 71), (.t 73)])), (I 75 (.fa 0 1 false (.t 6))),
  ⟨none, .st 1 (.t 75) (.t 74), none⟩]) .skip))
 (.seq (.seq (.ops [(I 76 (.fa 2 1 false (.t 9))), (I 77 (.ldp 1 false (.t 76)))])
 (.cond (.t 77) (.ops [(I 78 (.fa 1 1 false (.t 6))), (I 79 (.ldp 1 false (.t 78))), (I 80 (.fa 1 1 false (.t 9))), (I 81 (.ldp 1 false (.t 80))), (I 82 (.call 17 [(.t 79), (.t 81)])), (I 83 (.fa 1 1 false (.t 9))),
  ⟨none, .st 1 (.t 83) (.t 82), none⟩]) .skip))
 (.ops [(I 84 (.fa 0 1 false (.t 6))), (I 85 (.ldp 1 false (.t 84))), (I 86 (.fa 1 1 false (.t 9))), (I 87 (.ldp 1 false (.t 86))), (I 88 (.fa 2 1 false (.t 6))), (I 89 (.ldp 1 false (.t 88))), (I 90 (.mv (.t 89))),
  ⟨some 91, .fa 2 1 false (.t 9), some (90, true)⟩,
  ⟨some 92, .ldp 1 false (.t 91), some (90, true)⟩, (I 93 (.pick (.t 90) (.t 92) (.k (.bool false)))), (I 94 (.bld (.agg ([.list true [], .list true [], .bool false])) [((0, 1), (.t 85)), ((1, 1), (.t 87)), ((2, 1), (.t 93))])),
  ⟨none, .st 3 (.t 6) (.t 94), none⟩])))))))
 (.ops [(I 95 (.bin .add (.t 55) (.k (.int .i64 1)))), (I 55 (.mv (.t 95)))])))))))
 (.seq (.ops [(I 96 (.ldl 3 true 6)),
  ⟨none, .st 3 (.t 4) (.t 96), none⟩])
 .ret))) (.seq (.ops [(I 98 (.bin .eql (.t 16) (.k (.int .i64 3)))), (I 97 (.mv (.t 98)))])
 (.cond (.t 97) (.seq (.ops [(I 10 (.alv ([.list true [], .list true [], .bool false])))])
 (.seq (.seq (.ops [(I 99 (.fa 5 1 false (.t 3))), (I 100 (.ldi 1 false (.t 99))), (I 101 (.len (.t 100))), (I 102 (.mv (.k (.int .i64 0))))])
 (.block 3 (.loop [0, 4, 10, 100, 101, 102, 122, 123] (.seq (.ops [(I 103 (.bin .lss (.t 102) (.t 101)))])
 (.seq (.cond (.t 103) .skip (.exit 3))
 (.seq (.block 4 (.seq (.ops [(I 104 (.ix 6 (.t 100) (.t 102))), (I 105 (.ld 6 true (.t 104))), (I 12 (.alv ([.int .i64 0, .int .u64 0, .int .u64 0, .int .u64 0, .int .u64 0, .list true []]))),
  ⟨none, .st 6 (.t 12) (.t 105), none⟩])
 (.seq (.ops [(I 106 (.mv (.t 0))), (I 107 (.ldl 6 true 12)), (I 108 (.call 19 [(.t 106), (.t 107)])), (I 13 (.alv ([.list true [], .list true [], .bool false]))),
  ⟨none, .st 3 (.t 13) (.t 108), none⟩])
 (.dops [(I 109 (.fa 0 1 false (.t 10))), (I 110 (.ldp 1 false (.t 109))), (I 111 (.fa 0 1 false (.t 13))), (I 112 (.ldp 1 false (.t 111))), (I 113 (.call 17 [(.t 110), (.t 112)])), (I 114 (.fa 1 1 false (.t 10))), (I 115 (.ldp 1 false (.t 114))), (I 116 (.fa 1 1 false (.t 13))), (I 117 (.ldp 1 false (.t 116))), (I 118 (.call 17 [(.t 115), (.t 117)])), (I 119 (.fa 2 1 false (.t 10))), (I 120 (.ldp 1 false (.t 119))), (I 121 (.mv (.t 120))),
  ⟨some 122, .fa 2 1 false (.t 13), some (121, false)⟩,
  ⟨some 123, .ldp 1 false (.t 122), some (121, false)⟩, (I 124 (.pick (.t 121) (.k (.bool true)) (.t 123))), (I 125 (.bld (.agg ([.list true [], .list true [], .bool false])) [((0, 1), (.t 113)), ((1, 1), (.t 118)), ((2, 1), (.t 124))])),
  ⟨none, .st 3 (.t 10) (.t 125), none⟩]))))
 (.ops [(I 126 (.bin .add (.t 102) (.k (.int .i64 1)))), (I 102 (.mv (.t 126)))])))))))
 (.seq (.ops [(I 127 (.ldl 3 true 10)),
  ⟨none, .st 3 (.t 4) (.t 127), none⟩])
 .ret))) .skip))))))))
 (.seq (.ops [(I 128 (.mv (.t 0))), (I 129 (.fa 5 1 false (.t 3))), (I 130 (.ldi 1 false (.t 129))), (I 131 (.ix 6 (.t 130) (.k (.int .i64 0)))), (I 132 (.ld 6 true (.t 131))), (I 133 (.call 19 [(.t 128), (.t 132)])), (I 14 (.alv ([.list true [], .list true [], .bool false]))),
  ⟨none, .st 3 (.t 14) (.t 133), none⟩])
 (.seq (.seq (.ops [(I 134 (.fa 0 1 false (.t 3))), (I 135 (.ldi 1 false (.t 134))), (I 136 (.bin .neq (.t 135) (.k (.int .i64 6))))])
 (.cond (.t 136) (.ops [(I 137 (.mv (.t 0))), (I 138 (.fa 1 1 false (.t 14))), (I 139 (.ldp 1 false (.t 138))), (I 140 (.fa 0 1 false (.t 14))), (I 141 (.ldp 1 false (.t 140))), (I 142 (.call 18 [(.t 137), (.t 139), (.t 141)]))]) .skip))
 (.seq (.ops [(I 143 (.fa 2 1 false (.t 14))), (I 144 (.ldp 1 false (.t 143))), (I 145 (.mv (.t 144))),
  ⟨some 146, .fa 0 1 false (.t 3), some (145, false)⟩,
  ⟨some 147, .ldi 1 false (.t 146), some (145, false)⟩,
  ⟨some 148, .bin .neq (.t 147) (.k (.int .i64 5)), some (145, false)⟩, (I 149 (.pick (.t 145) (.k (.bool true)) (.t 148))), (I 150 (.fa 2 1 false (.t 14))),
  ⟨none, .st 1 (.t 150) (.t 149), none⟩])
 (.seq (.ops [(I 151 (.ldl 3 true 14)),
  ⟨none, .st 3 (.t 4) (.t 151), none⟩])
 .ret)))))), [.cell 4 3 true], false⟩
/-- cmp.isNaN[int] -/
def a20 : AFn := ⟨1, (.seq (.ops [(I 2 (.mv (.k (.bool false))))])
 (.seq (.ops [(I 3 (.mv (.t 0))), (I 4 (.mv (.t 0))), (I 5 (.bin .neq (.t 3) (.t 4))), (I 2 (.mv (.t 5)))])
 .ret)), [.tmp 2], true⟩
/-- cmp.Less[int] -/
def a21 : AFn := ⟨2, (.seq (.ops [(I 4 (.mv (.k (.bool false))))])
 (.seq (.ops [(I 5 (.mv (.t 0))), (I 6 (.call 20 [(.t 5)])), (I 7 (.mv (.t 6))),
  ⟨some 8, .mv (.t 1), some (7, true)⟩,
  ⟨some 9, .call 20 [(.t 8)], some (7, true)⟩,
  ⟨some 10, .un .not (.t 9), some (7, true)⟩, (I 11 (.pick (.t 7) (.t 10) (.k (.bool false)))), (I 12 (.mv (.t 11))),
  ⟨some 13, .mv (.t 0), some (12, false)⟩,
  ⟨some 14, .mv (.t 1), some (12, false)⟩,
  ⟨some 15, .bin .lss (.t 13) (.t 14), some (12, false)⟩, (I 16 (.pick (.t 12) (.k (.bool true)) (.t 15))), (I 4 (.mv (.t 16)))])
 .ret)), [.tmp 4], true⟩
/-- eyot/place.Of -/
def a22 : AFn := ⟨1, (.seq (.ops [(I 1 (.bim 6 (.t 0))), (I 2 (.alv ([.list true [], .list true [], .list true [], .list true [], .bool false]))), (I 3 (.mv (.k (.int .i64 0))))])
 (.seq (.seq (.ops [(I 7 (.ldi 6 true (.t 1))), (I 8 (.call 24 [(.t 7)])), (I 4 (.mv (.t 8)))])
 (.seq (.ops [(I 9 (.mv (.t 4))), (I 10 (.bin .neq (.t 9) (.k (.int .i64 0))))])
 (.cond (.t 10) (.seq (.ops [(I 11 (.bld (.agg ([.list true [], .list true [], .list true [], .list true [], .bool false])) [])), (I 12 (.mv (.t 4))),
  ⟨none, .st 5 (.t 2) (.t 11), none⟩, (I 3 (.mv (.t 12)))])
 (.seq (.ops [⟨none, .frz (.ag 0 (.sl .no) (.ag 1 (.sl .no) (.ag 2 (.sl .no) (.ag 3 (.sl (.sl .no)) .no)))) 2, none⟩]) .ret)) .skip)))
 (.seq (.ops [(I 5 (.aob ([.list true [], .list true [], .list true [], .list true [], .bool false])))])
 (.seq (.ops [(I 13 (.ldi 6 true (.t 1))), (I 14 (.call 19 [(.t 5), (.t 13)])), (I 6 (.alv ([.list true [], .list true [], .bool false]))),
  ⟨none, .st 3 (.t 6) (.t 14), none⟩])
 (.seq (.seq (.ops [(I 15 (.fa 0 1 false (.t 5))), (I 16 (.ldo 1 false (.t 15))), (I 17 (.len (.t 16))), (I 18 (.bin .gtr (.t 17) (.k (.int .i64 40))))])
 (.cond (.t 18) (.seq (.ops [(I 19 (.bld (.agg ([.list true [], .list true [], .list true [], .list true [], .bool false])) [])),
  ⟨none, .st 5 (.t 2) (.t 19), none⟩, (I 3 (.mv (.k (.int .i64 6))))])
 (.seq (.ops [⟨none, .frz (.ag 0 (.sl .no) (.ag 1 (.sl .no) (.ag 2 (.sl .no) (.ag 3 (.sl (.sl .no)) .no)))) 2, none⟩]) .ret)) .skip))
 (.seq (.dops [(I 20 (.fa 0 1 false (.t 6))), (I 21 (.ldp 1 false (.t 20))), (I 22 (.fa 1 1 false (.t 6))), (I 23 (.ldp 1 false (.t 22))), (I 24 (.fa 2 1 false (.t 6))), (I 25 (.ldp 1 false (.t 24))), (I 26 (.fa 1 1 false (.t 5))),
  ⟨none, .sto 1 (.t 26) (.t 21), none⟩, (I 27 (.fa 2 1 false (.t 5))),
  ⟨none, .sto 1 (.t 27) (.t 23), none⟩, (I 28 (.fa 4 1 false (.t 5))),
  ⟨none, .sto 1 (.t 28) (.t 25), none⟩])
 (.seq (.ops [(I 29 (.ldo 5 true (.t 5))),
  ⟨none, .st 5 (.t 2) (.t 29), none⟩, (I 3 (.mv (.k (.int .i64 0))))])
 (.seq (.ops [⟨none, .frz (.ag 0 (.sl .no) (.ag 1 (.sl .no) (.ag 2 (.sl .no) (.ag 3 (.sl (.sl .no)) .no)))) 2, none⟩]) .ret)))))))), [.cell 2 5 true, .tmp 3], true⟩
/-- eyot/dfa.Make -/
def a23 : AFn := ⟨1, (.seq (.ops [(I 2 (.alv (List.replicate 256 (.int .u8 0) ++ [.list true [], .list true []]))), (I 3 (.mv (.k (.int .i64 0))))])
 (.seq (.ops [(I 11 (.bld (.agg ([.list true []] ++ List.replicate 256 (.int .u8 0) ++ [.list true [], .list true [], .list true [], .list true []])) [])), (I 12 (.bob 261 (.t 11))), (I 4 (.mv (.t 12)))])
 (.seq (.ops [(I 5 (.mv (.k (.int .i64 (-1)))))])
 (.seq (.seq (.ops [(I 13 (.mv (.t 0))), (I 14 (.len (.t 13))), (I 15 (.mv (.k (.int .i64 0))))])
 (.block 0 (.loop [2, 4, 5, 13, 14, 15, 33, 34] (.seq (.ops [(I 16 (.bin .lss (.t 15) (.t 14)))])
 (.seq (.cond (.t 16) .skip (.exit 0))
 (.seq (.block 1 (.seq (.ops [(I 17 (.mv (.t 15))), (I 18 (.ix 8 (.t 13) (.t 15))), (I 19 (.ld 8 true (.t 18))), (I 7 (.alv ([.str [], .int .i64 0, .int .u64 0, .int .u64 0, .int .u64 0, .int .u64 0, .list true [], .bool false]))), (I 6 (.mv (.t 17))),
  ⟨none, .st 8 (.t 7) (.t 19), none⟩])
 (.seq (.ops [(I 21 (.fa 1 6 true (.t 7))), (I 22 (.ldp 6 true (.t 21))), (I 23 (.call 22 [(.t 22)])), (I 20 (.mv (.t 23))), (I 24 (.ext 0 (.t 20))), (I 25 (.ext 1 (.t 20))), (I 8 (.alv ([.list true [], .list true [], .list true [], .list true [], .bool false]))),
  ⟨none, .st 5 (.t 8) (.t 24), none⟩, (I 9 (.mv (.t 25)))])
 (.seq (.seq (.ops [(I 26 (.mv (.t 9))), (I 27 (.bin .neq (.t 26) (.k (.int .i64 0))))])
 (.cond (.t 27) (.seq (.ops [(I 28 (.bld (.agg (List.replicate 256 (.int .u8 0) ++ [.list true [], .list true []])) [])), (I 29 (.mv (.t 9))),
  ⟨none, .st 258 (.t 2) (.t 28), none⟩, (I 3 (.mv (.t 29)))])
 (.seq (.ops [⟨none, .frz (.ag 256 (.sl (.sl .no)) (.ag 257 (.sl .no) .no)) 2, none⟩]) .ret)) .skip))
 (.seq (.seq (.ops [(I 30 (.fa 4 1 false (.t 8))), (I 31 (.ldp 1 false (.t 30))), (I 32 (.mv (.t 31))),
  ⟨some 33, .mv (.t 5), some (32, true)⟩,
  ⟨some 34, .bin .lss (.t 33) (.k (.int .i64 0)), some (32, true)⟩, (I 35 (.pick (.t 32) (.t 34) (.k (.bool false))))])
 (.cond (.t 35) (.ops [(I 36 (.mv (.t 6))), (I 5 (.mv (.t 36)))]) .skip))
 (.dops [(I 37 (.mv (.t 4))), (I 38 (.mv (.t 4))), (I 39 (.nilc (.t 38))), (I 40 (.fa 0 1 false (.t 39))), (I 41 (.ld 1 false (.t 40))), (I 42 (.ldl 5 true 8)), (I 43 (.mkl (.agg ([.list true [], .list true [], .list true [], .list true [], .bool false])) 1 [(0, (.t 42))])), (I 44 (.app 5 (.t 41) (.t 43))), (I 45 (.nilc (.t 37))), (I 46 (.fa 0 1 false (.t 45))),
  ⟨none, .st 1 (.t 46) (.t 44), none⟩]))))))
 (.ops [(I 47 (.bin .add (.t 15) (.k (.int .i64 1)))), (I 15 (.mv (.t 47)))])))))))
 (.seq (.ops [(I 48 (.mv (.t 4))), (I 49 (.call 9 [(.t 48)]))])
 (.seq (.ops [(I 50 (.mv (.t 4))), (I 51 (.mv (.t 5))), (I 52 (.mkm (.int .i64 0) 1 [(0, (.t 51))])), (I 53 (.nilc (.t 50))), (I 54 (.fa 1 258 true (.t 53))), (I 55 (.fa 257 1 false (.t 54))),
  ⟨none, .st 1 (.t 55) (.t 52), none⟩])
 (.seq (.ops [(I 56 (.mv (.t 4))), (I 57 (.mv (.t 4))), (I 58 (.mv (.t 4))), (I 59 (.call 2 [(.t 58)])), (I 60 (.call 13 [(.t 57), (.t 59)])), (I 61 (.mkm (.list true []) 1 [(0, (.t 60))])), (I 62 (.nilc (.t 56))), (I 63 (.fa 1 258 true (.t 62))), (I 64 (.fa 256 1 false (.t 63))),
  ⟨none, .st 1 (.t 64) (.t 61), none⟩])
 (.seq (.seq (.ops [(I 10 (.mv (.k (.int .i64 0))))])
 (.block 2 (.loop [2, 4, 10] (.seq (.seq (.ops [(I 65 (.mv (.t 10))), (I 66 (.mv (.t 4))), (I 67 (.nilc (.t 66))), (I 68 (.fa 260 1 false (.t 67))), (I 69 (.ld 1 false (.t 68))), (I 70 (.len (.t 69))), (I 71 (.bin .lss (.t 65) (.t 70)))])
 (.cond (.t 71) .skip (.exit 2)))
 (.seq (.block 3 (.seq (.seq (.ops [(I 74 (.mv (.t 4))), (I 75 (.nilc (.t 74))), (I 76 (.fa 260 1 false (.t 75))), (I 77 (.ld 1 false (.t 76))), (I 78 (.len (.t 77))), (I 79 (.bin .geq (.t 78) (.k (.int .i64 60))))])
 (.cond (.t 79) (.seq (.ops [(I 80 (.bld (.agg (List.replicate 256 (.int .u8 0) ++ [.list true [], .list true []])) [])),
  ⟨none, .st 258 (.t 2) (.t 80), none⟩, (I 3 (.mv (.k (.int .i64 6))))])
 (.seq (.ops [⟨none, .frz (.ag 256 (.sl (.sl .no)) (.ag 257 (.sl .no) .no)) 2, none⟩]) .ret)) .skip))
 (.dops [(I 81 (.mv (.t 4))), (I 82 (.mv (.t 4))), (I 83 (.nilc (.t 82))), (I 84 (.fa 1 258 true (.t 83))), (I 85 (.fa 256 1 false (.t 84))), (I 86 (.ld 1 false (.t 85))), (I 87 (.mv (.t 4))), (I 88 (.mv (.t 4))), (I 89 (.mv (.t 4))), (I 90 (.nilc (.t 89))), (I 91 (.fa 260 1 false (.t 90))), (I 92 (.ld 1 false (.t 91))), (I 93 (.mv (.t 10))), (I 94 (.ix 1 (.t 92) (.t 93))), (I 95 (.ld 1 false (.t 94))), (I 96 (.call 6 [(.t 88), (.t 95)])), (I 97 (.callc 13 [(.t 87), (.t 96)] [(86, 1, false, (.t 85))])), (I 98 (.mkl (.list true []) 1 [(0, (.t 97))])), (I 99 (.app 1 (.t 86) (.t 98))), (I 100 (.nilc (.t 81))), (I 101 (.fa 1 258 true (.t 100))), (I 102 (.fa 256 1 false (.t 101))),
  ⟨none, .st 1 (.t 102) (.t 99), none⟩])))
 (.ops [(I 72 (.mv (.t 10))), (I 73 (.bin .add (.t 72) (.k (.int .i64 1)))), (I 10 (.mv (.t 73)))]))))))
 (.seq (.ops [(I 103 (.mv (.t 4))), (I 104 (.nilc (.t 103))), (I 105 (.fa 1 258 true (.t 104))), (I 106 (.ld 258 true (.t 105))),
  ⟨none, .st 258 (.t 2) (.t 106), none⟩, (I 3 (.mv (.k (.int .i64 0))))])
 (.seq (.ops [⟨none, .frz (.ag 256 (.sl (.sl .no)) (.ag 257 (.sl .no) .no)) 2, none⟩]) .ret)))))))))), [.cell 2 258 true, .tmp 3], true⟩
/-- eyot/regex.May -/
def a24 : AFn := ⟨1, (.seq (.ops [(I 1 (.bim 6 (.t 0))), (I 2 (.mv (.k (.int .i64 0))))])
 (.seq (.seq (.ops [(I 5 (.ldi 6 true (.t 1))), (I 6 (.call 28 [(.t 5)])), (I 7 (.un .not (.t 6)))])
 (.cond (.t 7) (.seq (.ops [(I 2 (.mv (.k (.int .i64 2))))])
 .ret) .skip))
 (.seq (.seq (.ops [(I 9 (.ldi 6 true (.t 1))), (I 10 (.call 29 [(.t 9)])), (I 8 (.mv (.t 10))), (I 11 (.ext 0 (.t 8))), (I 12 (.ext 1 (.t 8))), (I 3 (.mv (.t 11))), (I 4 (.mv (.t 12)))])
 (.seq (.ops [(I 13 (.mv (.t 3))), (I 14 (.bin .gtr (.t 13) (.k (.int .i64 40)))), (I 15 (.mv (.t 14))),
  ⟨some 16, .mv (.t 4), some (15, false)⟩,
  ⟨some 17, .bin .gtr (.t 16) (.k (.int .i64 12)), some (15, false)⟩, (I 18 (.pick (.t 15) (.k (.bool true)) (.t 17)))])
 (.cond (.t 18) (.seq (.ops [(I 2 (.mv (.k (.int .i64 6))))])
 .ret) .skip)))
 (.seq (.ops [(I 2 (.mv (.k (.int .i64 0))))])
 .ret)))), [.tmp 2], true⟩
/-- slices.Concat[[]int,int] -/
def a25 : AFn := ⟨1, (.seq (.ops [(I 2 (.mv (.k (.list true []))))])
 (.seq (.ops [(I 3 (.mv (.k (.int .i64 0))))])
 (.seq (.seq (.ops [(I 9 (.mv (.t 0))), (I 10 (.len (.t 9))), (I 11 (.mv (.k (.int .i64 0))))])
 (.block 0 (.loop [0, 3, 9, 10, 11] (.seq (.ops [(I 12 (.bin .lss (.t 11) (.t 10)))])
 (.seq (.cond (.t 12) .skip (.exit 0))
 (.seq (.block 1 (.seq (.ops [(I 13 (.ix 1 (.t 9) (.t 11))), (I 14 (.ld 1 false (.t 13))), (I 5 (.mv (.t 14)))])
 (.seq (.ops [(I 15 (.mv (.t 3))), (I 16 (.mv (.t 5))), (I 17 (.len (.t 16))), (I 18 (.bin .add (.t 15) (.t 17))), (I 3 (.mv (.t 18)))])
 (.seq (.ops [(I 19 (.mv (.t 3))), (I 20 (.bin .lss (.t 19) (.k (.int .i64 0))))])
 (.cond (.t 20) (.ops [(I 21 (.mkif 0 (.k (.str [108, 101, 110, 32, 111, 117, 116, 32, 111, 102, 32, 114, 97, 110, 103, 101])))),
  ⟨none, .pan (.t 21), none⟩]) .skip)))))
 (.ops [(I 22 (.bin .add (.t 11) (.k (.int .i64 1)))), (I 11 (.mv (.t 22)))])))))))
 (.seq (.ops [(I 23 (.mv (.t 3))), (I 24 (.call 33 [(.k (.list true [])), (.t 23)])), (I 6 (.mv (.t 24)))])
 (.seq (.seq (.ops [(I 25 (.mv (.t 0))), (I 26 (.len (.t 25))), (I 27 (.mv (.k (.int .i64 0))))])
 (.block 2 (.loop [6, 25, 26, 27] (.seq (.ops [(I 28 (.bin .lss (.t 27) (.t 26)))])
 (.seq (.cond (.t 28) .skip (.exit 2))
 (.seq (.block 3 (.seq (.ops [(I 29 (.ix 1 (.t 25) (.t 27))), (I 30 (.ld 1 false (.t 29))), (I 8 (.mv (.t 30)))])
 (.ops [(I 31 (.mv (.t 6))), (I 32 (.mv (.t 8))), (I 33 (.app 1 (.t 31) (.t 32))), (I 6 (.mv (.t 33)))])))
 (.ops [(I 34 (.bin .add (.t 27) (.k (.int .i64 1)))), (I 27 (.mv (.t 34)))])))))))
 (.seq (.ops [(I 35 (.mv (.t 6))), (I 2 (.mv (.t 35)))])
 .ret)))))), [.tmp 2], false⟩
/-- slices.Sort[[]int,int] -/
def a26 : AFn := ⟨1, (.seq (.ops [(I 3 (.mv (.t 0))), (I 4 (.len (.t 3))), (I 2 (.mv (.t 4)))])
 (.ops [(I 5 (.mv (.t 0))), (I 6 (.mv (.t 2))), (I 7 (.mv (.t 2))), (I 8 (.cvi .u64 (.t 7))), (I 9 (.call 32 [(.t 8)])), (I 10 (.call 36 [(.t 5), (.k (.int .i64 0)), (.t 6), (.t 9)]))])), [], false⟩
/-- slices.Compact[[]int,int] -/
def a27 : AFn := ⟨1, (.seq (.ops [(I 2 (.mv (.k (.list true []))))])
 (.seq (.seq (.ops [(I 6 (.mv (.t 0))), (I 7 (.len (.t 6))), (I 8 (.bin .lss (.t 7) (.k (.int .i64 2))))])
 (.cond (.t 8) (.seq (.ops [(I 9 (.mv (.t 0))), (I 2 (.mv (.t 9)))])
 .ret) .skip))
 (.seq (.seq (.ops [(I 3 (.mv (.k (.int .i64 1))))])
 (.block 0 (.loop [0, 3] (.seq (.seq (.ops [(I 10 (.mv (.t 3))), (I 11 (.mv (.t 0))), (I 12 (.len (.t 11))), (I 13 (.bin .lss (.t 10) (.t 12)))])
 (.cond (.t 13) .skip (.exit 0)))
 (.seq (.block 1 (.seq (.dops [(I 16 (.mv (.t 0))), (I 17 (.mv (.t 3))), (I 18 (.ix 1 (.t 16) (.t 17))), (I 19 (.ld 1 false (.t 18))), (I 20 (.mv (.t 0))), (I 21 (.mv (.t 3))), (I 22 (.bin .sub (.t 21) (.k (.int .i64 1)))), (I 23 (.ix 1 (.t 20) (.t 22))), (I 24 (.ld 1 false (.t 23))), (I 25 (.bin .eql (.t 19) (.t 24)))])
 (.cond (.t 25) (.seq (.ops [(I 26 (.mv (.t 0))), (I 27 (.mv (.t 3))), (I 28 (.sl 1 (.t 26) (some (.t 27)) none none)), (I 4 (.mv (.t 28)))])
 (.seq (.seq (.ops [(I 5 (.mv (.k (.int .i64 1))))])
 (.block 2 (.loop [0, 3, 4, 5] (.seq (.seq (.ops [(I 29 (.mv (.t 5))), (I 30 (.mv (.t 4))), (I 31 (.len (.t 30))), (I 32 (.bin .lss (.t 29) (.t 31)))])
 (.cond (.t 32) .skip (.exit 2)))
 (.seq (.block 3 (.seq (.dops [(I 35 (.mv (.t 4))), (I 36 (.mv (.t 5))), (I 37 (.ix 1 (.t 35) (.t 36))), (I 38 (.ld 1 false (.t 37))), (I 39 (.mv (.t 4))), (I 40 (.mv (.t 5))), (I 41 (.bin .sub (.t 40) (.k (.int .i64 1)))), (I 42 (.ix 1 (.t 39) (.t 41))), (I 43 (.ld 1 false (.t 42))), (I 44 (.bin .neq (.t 38) (.t 43)))])
 (.cond (.t 44) (.seq (.ops [(I 45 (.mv (.t 0))), (I 46 (.mv (.t 3))), (I 47 (.mv (.t 4))), (I 48 (.mv (.t 5))), (I 49 (.ix 1 (.t 47) (.t 48))), (I 50 (.ld 1 false (.t 49))), (I 51 (.ix 1 (.t 45) (.t 46))),
  ⟨none, .st 1 (.t 51) (.t 50), none⟩])
 (.ops [(I 52 (.mv (.t 3))), (I 53 (.bin .add (.t 52) (.k (.int .i64 1)))), (I 3 (.mv (.t 53)))])) .skip)))
 (.ops [(I 33 (.mv (.t 5))), (I 34 (.bin .add (.t 33) (.k (.int .i64 1)))), (I 5 (.mv (.t 34)))]))))))
 (.seq (.ops [(I 54 (.mv (.t 0))), (I 55 (.mv (.t 3))), (I 56 (.sl 1 (.t 54) (some (.t 55)) none none)),
  ⟨none, .clr 1 (.int .i64 0) (.t 56), none⟩])
 (.seq (.ops [(I 57 (.mv (.t 0))), (I 58 (.mv (.t 3))), (I 59 (.sl 1 (.t 57) none (some (.t 58)) none)), (I 2 (.mv (.t 59)))])
 .ret)))) .skip)))
 (.ops [(I 14 (.mv (.t 3))), (I 15 (.bin .add (.t 14) (.k (.int .i64 1)))), (I 3 (.mv (.t 15)))]))))))
 (.seq (.ops [(I 60 (.mv (.t 0))), (I 2 (.mv (.t 60)))])
 .ret)))), [.tmp 2], false⟩
/-- eyot/regex.formed -/
def a28 : AFn := ⟨1, (.seq (.ops [(I 1 (.bim 6 (.t 0))), (I 2 (.mv (.k (.bool false))))])
 (.seq (.block 0 (.seq (.ops [(I 6 (.fa 0 1 false (.t 1))), (I 7 (.ldi 1 false (.t 6))), (I 8 (.bin .eql (.t 7) (.k (.int .i64 1)))), (I 5 (.mv (.t 8)))])
 (.cond (.t 5) (.seq (.ops [(I 9 (.fa 5 1 false (.t 1))), (I 10 (.ldi 1 false (.t 9))), (I 11 (.len (.t 10))), (I 12 (.bin .eql (.t 11) (.k (.int .i64 0)))), (I 13 (.mv (.t 12))),
  ⟨some 14, .fa 1 4 true (.t 1), some (13, true)⟩,
  ⟨some 15, .ldi 4 true (.t 14), some (13, true)⟩,
  ⟨some 16, .bld (.agg ([.int .u64 0, .int .u64 0, .int .u64 0, .int .u64 0])) [], some (13, true)⟩,
  ⟨some 17, .eq true (.agg [.i, .i, .i, .i]) (.t 15) (.t 16), some (13, true)⟩, (I 18 (.pick (.t 13) (.t 17) (.k (.bool false)))), (I 2 (.mv (.t 18)))])
 .ret) (.seq (.ops [(I 20 (.fa 1 4 true (.t 1))), (I 21 (.ldi 4 true (.t 20))), (I 22 (.bld (.agg ([.int .u64 0, .int .u64 0, .int .u64 0, .int .u64 0])) [])), (I 23 (.eq true (.agg [.i, .i, .i, .i]) (.t 21) (.t 22))), (I 19 (.mv (.t 23)))])
 (.cond (.t 19) (.seq (.ops [(I 2 (.mv (.k (.bool false))))])
 .ret) (.seq (.seq (.ops [(I 25 (.fa 0 1 false (.t 1))), (I 26 (.ldi 1 false (.t 25))), (I 27 (.bin .eql (.t 26) (.k (.int .i64 2)))), (I 24 (.mv (.t 27)))])
 (.cond (.t 24) .skip (.ops [(I 28 (.fa 0 1 false (.t 1))), (I 29 (.ldi 1 false (.t 28))), (I 30 (.bin .eql (.t 29) (.k (.int .i64 3)))), (I 24 (.mv (.t 30)))])))
 (.cond (.t 24) (.seq (.ops [(I 31 (.fa 5 1 false (.t 1))), (I 32 (.ldi 1 false (.t 31))), (I 33 (.len (.t 32))), (I 34 (.bin .lss (.t 33) (.k (.int .i64 2))))])
 (.cond (.t 34) (.seq (.ops [(I 2 (.mv (.k (.bool false))))])
 .ret) .skip)) (.seq (.ops [(I 36 (.fa 0 1 false (.t 1))), (I 37 (.ldi 1 false (.t 36))), (I 38 (.call 30 [(.t 37)])), (I 35 (.mv (.t 38)))])
 (.cond (.t 35) (.seq (.ops [(I 39 (.fa 5 1 false (.t 1))), (I 40 (.ldi 1 false (.t 39))), (I 41 (.len (.t 40))), (I 42 (.bin .neq (.t 41) (.k (.int .i64 1)))), (I 43 (.mv (.t 42))),
  ⟨some 44, .fa 5 1 false (.t 1), some (43, false)⟩,
  ⟨some 45, .ldi 1 false (.t 44), some (43, false)⟩,
  ⟨some 46, .ix 6 (.t 45) (.k (.int .i64 0)), some (43, false)⟩,
  ⟨some 47, .fa 0 1 false (.t 46), some (43, false)⟩,
  ⟨some 48, .ld 1 false (.t 47), some (43, false)⟩,
  ⟨some 49, .call 30 [(.t 48)], some (43, false)⟩, (I 50 (.pick (.t 43) (.k (.bool true)) (.t 49)))])
 (.cond (.t 50) (.seq (.ops [(I 2 (.mv (.k (.bool false))))])
 .ret) .skip)) (.seq (.ops [(I 2 (.mv (.k (.bool false))))])
 .ret))))))))))
 (.seq (.seq (.ops [(I 51 (.fa 5 1 false (.t 1))), (I 52 (.ldi 1 false (.t 51))), (I 53 (.len (.t 52))), (I 54 (.mv (.k (.int .i64 0))))])
 (.block 1 (.loop [1, 52, 53, 54, 64, 65, 66] (.seq (.ops [(I 55 (.bin .lss (.t 54) (.t 53)))])
 (.seq (.cond (.t 55) .skip (.exit 1))
 (.seq (.block 2 (.seq (.ops [(I 56 (.ix 6 (.t 52) (.t 54))), (I 57 (.ld 6 true (.t 56))), (I 4 (.alv ([.int .i64 0, .int .u64 0, .int .u64 0, .int .u64 0, .int .u64 0, .list true []]))),
  ⟨none, .st 6 (.t 4) (.t 57), none⟩])
 (.seq (.ops [(I 58 (.fa 0 1 false (.t 4))), (I 59 (.ldp 1 false (.t 58))), (I 60 (.fa 0 1 false (.t 1))), (I 61 (.ldi 1 false (.t 60))), (I 62 (.bin .eql (.t 59) (.t 61))), (I 63 (.mv (.t 62))),
  ⟨some 64, .ldl 6 true 4, some (63, false)⟩,
  ⟨some 65, .call 28 [(.t 64)], some (63, false)⟩,
  ⟨some 66, .un .not (.t 65), some (63, false)⟩, (I 67 (.pick (.t 63) (.k (.bool true)) (.t 66)))])
 (.cond (.t 67) (.seq (.ops [(I 2 (.mv (.k (.bool false))))])
 .ret) .skip))))
 (.ops [(I 68 (.bin .add (.t 54) (.k (.int .i64 1)))), (I 54 (.mv (.t 68)))])))))))
 (.seq (.ops [(I 2 (.mv (.k (.bool true))))])
 .ret)))), [.tmp 2], true⟩
/-- eyot/regex.size -/
def a29 : AFn := ⟨1, (.seq (.ops [(I 1 (.bim 6 (.t 0))), (I 2 (.mv (.k (.int .i64 0)))), (I 3 (.mv (.k (.int .i64 0))))])
 (.seq (.seq (.ops [(I 8 (.fa 5 1 false (.t 1))), (I 9 (.ldi 1 false (.t 8))), (I 10 (.len (.t 9))), (I 11 (.mv (.k (.int .i64 0))))])
 (.block 0 (.loop [2, 3, 9, 10, 11] (.seq (.ops [(I 12 (.bin .lss (.t 11) (.t 10)))])
 (.seq (.cond (.t 12) .skip (.exit 0))
 (.seq (.block 1 (.seq (.ops [(I 13 (.ix 6 (.t 9) (.t 11))), (I 14 (.ld 6 true (.t 13))), (I 5 (.alv ([.int .i64 0, .int .u64 0, .int .u64 0, .int .u64 0, .int .u64 0, .list true []]))),
  ⟨none, .st 6 (.t 5) (.t 14), none⟩])
 (.seq (.ops [(I 16 (.ldl 6 true 5)), (I 17 (.call 29 [(.t 16)])), (I 15 (.mv (.t 17))), (I 18 (.ext 0 (.t 15))), (I 19 (.ext 1 (.t 15))), (I 6 (.mv (.t 18))), (I 7 (.mv (.t 19)))])
 (.ops [(I 20 (.mv (.t 2))), (I 21 (.mv (.t 6))), (I 22 (.bin .add (.t 20) (.t 21))), (I 23 (.mv (.t 3))), (I 24 (.mv (.t 7))), (I 25 (.mnmx true (.t 23) (.t 24))), (I 2 (.mv (.t 22))), (I 3 (.mv (.t 25)))]))))
 (.ops [(I 26 (.bin .add (.t 11) (.k (.int .i64 1)))), (I 11 (.mv (.t 26)))])))))))
 (.seq (.ops [(I 27 (.mv (.t 2))), (I 28 (.bin .add (.t 27) (.k (.int .i64 1)))), (I 29 (.mv (.t 3))), (I 30 (.bin .add (.t 29) (.k (.int .i64 1)))), (I 2 (.mv (.t 28))), (I 3 (.mv (.t 30)))])
 .ret))), [.tmp 2, .tmp 3], true⟩
/-- eyot/regex.sign -/
def a30 : AFn := ⟨1, (.seq (.ops [(I 2 (.mv (.k (.bool false))))])
 (.seq (.ops [(I 3 (.mv (.t 0))), (I 4 (.bin .geq (.t 3) (.k (.int .i64 4)))), (I 5 (.mv (.t 4))),
  ⟨some 6, .mv (.t 0), some (5, true)⟩,
  ⟨some 7, .bin .leq (.t 6) (.k (.int .i64 6)), some (5, true)⟩, (I 8 (.pick (.t 5) (.t 7) (.k (.bool false)))), (I 2 (.mv (.t 8)))])
 .ret)), [.tmp 2], true⟩
/-- math/bits.Len64 -/
def a31 : AFn := ⟨1, (.seq (.ops [(I 2 (.mv (.k (.int .i64 0))))])
 (.seq (.seq (.ops [(I 3 (.mv (.t 0))), (I 4 (.bin .geq (.t 3) (.k (.int .u64 4294967296))))])
 (.cond (.t 4) (.seq (.ops [(I 5 (.mv (.t 0))), (I 6 (.bin .shr (.t 5) (.k (.int .u64 32)))), (I 0 (.mv (.t 6)))])
 (.ops [(I 2 (.mv (.k (.int .i64 32))))])) .skip))
 (.seq (.seq (.ops [(I 7 (.mv (.t 0))), (I 8 (.bin .geq (.t 7) (.k (.int .u64 65536))))])
 (.cond (.t 8) (.seq (.ops [(I 9 (.mv (.t 0))), (I 10 (.bin .shr (.t 9) (.k (.int .u64 16)))), (I 0 (.mv (.t 10)))])
 (.ops [(I 11 (.mv (.t 2))), (I 12 (.bin .add (.t 11) (.k (.int .i64 16)))), (I 2 (.mv (.t 12)))])) .skip))
 (.seq (.seq (.ops [(I 13 (.mv (.t 0))), (I 14 (.bin .geq (.t 13) (.k (.int .u64 256))))])
 (.cond (.t 14) (.seq (.ops [(I 15 (.mv (.t 0))), (I 16 (.bin .shr (.t 15) (.k (.int .u64 8)))), (I 0 (.mv (.t 16)))])
 (.ops [(I 17 (.mv (.t 2))), (I 18 (.bin .add (.t 17) (.k (.int .i64 8)))), (I 2 (.mv (.t 18)))])) .skip))
 (.seq (.ops [(I 19 (.mv (.t 2))), (I 20 (.mv (.t 0))), (I 21 (.cvi .u8 (.t 20))), (I 22 (.ixs (.k (.str [0, 1, 2, 2, 3, 3, 3, 3, 4, 4, 4, 4, 4, 4, 4, 4, 5, 5, 5, 5, 5, 5, 5, 5, 5, 5, 5, 5, 5, 5, 5, 5, 6, 6, 6, 6, 6, 6, 6, 6, 6, 6, 6, 6, 6, 6, 6, 6, 6, 6, 6, 6, 6, 6, 6, 6, 6, 6, 6, 6, 6, 6, 6, 6, 7, 7, 7, 7, 7, 7, 7, 7, 7, 7, 7, 7, 7, 7, 7, 7, 7, 7, 7, 7, 7, 7, 7, 7, 7, 7, 7, 7, 7, 7, 7, 7, 7, 7, 7, 7, 7, 7, 7, 7, 7, 7, 7, 7, 7, 7, 7, 7, 7, 7, 7, 7, 7, 7, 7, 7, 7, 7, 7, 7, 7, 7, 7, 7, 8, 8, 8, 8, 8, 8, 8, 8, 8, 8, 8, 8, 8, 8, 8, 8, 8, 8, 8, 8, 8, 8, 8, 8, 8, 8, 8, 8, 8, 8, 8, 8, 8, 8, 8, 8, 8, 8, 8, 8, 8, 8, 8, 8, 8, 8, 8, 8, 8, 8, 8, 8, 8, 8, 8, 8, 8, 8, 8, 8, 8, 8, 8, 8, 8, 8, 8, 8, 8, 8, 8, 8, 8, 8, 8, 8, 8, 8, 8, 8, 8, 8, 8, 8, 8, 8, 8, 8, 8, 8, 8, 8, 8, 8, 8, 8, 8, 8, 8, 8, 8, 8, 8, 8, 8, 8, 8, 8, 8, 8, 8, 8, 8, 8, 8, 8, 8, 8, 8, 8, 8, 8, 8, 8, 8, 8, 8, 8])) (.t 21))), (I 23 (.cvi .i64 (.t 22))), (I 24 (.bin .add (.t 19) (.t 23))), (I 2 (.mv (.t 24)))])
 .ret))))), [.tmp 2], true⟩
/-- math/bits.Len -/
def a32 : AFn := ⟨1, (.seq (.ops [(I 2 (.mv (.k (.int .i64 0))))])
 (.seq (.cond (.k (.bool false)) (.seq (.ops [(I 3 (.mv (.t 0))), (I 4 (.cvi .u32 (.t 3))), (I 5 (.call 189 [(.t 4)])), (I 2 (.mv (.t 5)))])
 .ret) .skip)
 (.seq (.ops [(I 6 (.mv (.t 0))), (I 7 (.call 31 [(.t 6)])), (I 2 (.mv (.t 7)))])
 .ret))), [.tmp 2], true⟩
/-- slices.Grow[[]int,int] -/
def a33 : AFn := ⟨2, (.seq (.ops [(I 4 (.mv (.k (.list true []))))])
 (.seq (.seq (.ops [(I 5 (.mv (.t 1))), (I 6 (.bin .lss (.t 5) (.k (.int .i64 0))))])
 (.cond (.t 6) (.ops [(I 7 (.mkif 0 (.k (.str [99, 97, 110, 110, 111, 116, 32, 98, 101, 32, 110, 101, 103, 97, 116, 105, 118, 101])))),
  ⟨none, .pan (.t 7), none⟩]) .skip))
 (.seq (.seq (.ops [(I 8 (.mv (.t 1))), (I 9 (.mv (.t 0))), (I 10 (.cap (.t 9))), (I 11 (.mv (.t 0))), (I 12 (.len (.t 11))), (I 13 (.bin .sub (.t 10) (.t 12))), (I 14 (.bin .sub (.t 8) (.t 13))), (I 1 (.mv (.t 14)))])
 (.seq (.ops [(I 15 (.mv (.t 1))), (I 16 (.bin .gtr (.t 15) (.k (.int .i64 0))))])
 (.cond (.t 16) (.ops [(I 17 (.mv (.t 0))), (I 18 (.mv (.t 0))), (I 19 (.cap (.t 18))), (I 20 (.sl 1 (.t 17) none (some (.t 19)) none)), (I 21 (.mv (.t 1))), (I 22 (.apz 1 (.int .i64 0) (.t 20) (.t 21))), (I 23 (.mv (.t 0))), (I 24 (.len (.t 23))), (I 25 (.sl 1 (.t 22) none (some (.t 24)) none)), (I 0 (.mv (.t 25)))]) .skip)))
 (.seq (.ops [(I 26 (.mv (.t 0))), (I 4 (.mv (.t 26)))])
 .ret)))), [.tmp 4], false⟩
/-- slices.Index[[]int,int] -/
def a34 : AFn := ⟨2, (.seq (.ops [(I 4 (.mv (.k (.int .i64 0))))])
 (.seq (.seq (.ops [(I 6 (.mv (.t 0))), (I 7 (.len (.t 6))), (I 8 (.mv (.k (.int .i64 0))))])
 (.block 0 (.loop [0, 1, 7, 8] (.seq (.ops [(I 9 (.bin .lss (.t 8) (.t 7)))])
 (.seq (.cond (.t 9) .skip (.exit 0))
 (.seq (.block 1 (.seq (.ops [(I 10 (.mv (.t 8))), (I 5 (.mv (.t 10)))])
 (.seq (.ops [(I 11 (.mv (.t 1))), (I 12 (.mv (.t 0))), (I 13 (.mv (.t 5))), (I 14 (.ix 1 (.t 12) (.t 13))), (I 15 (.ld 1 false (.t 14))), (I 16 (.bin .eql (.t 11) (.t 15)))])
 (.cond (.t 16) (.seq (.ops [(I 17 (.mv (.t 5))), (I 4 (.mv (.t 17)))])
 .ret) .skip))))
 (.ops [(I 18 (.bin .add (.t 8) (.k (.int .i64 1)))), (I 8 (.mv (.t 18)))])))))))
 (.seq (.ops [(I 4 (.mv (.k (.int .i64 (-1)))))])
 .ret))), [.tmp 4], true⟩
/-- slices.pdqsortCmpFunc[eyot/dfa.spot] -/
def a35 : AFn := ⟨5, (.seq (.ops [(I 10 (.mv (.k (.bool true))))])
 (.seq (.ops [(I 11 (.mv (.k (.bool true))))])
 (.block 0 (.loop [0, 1, 2, 3, 4, 10, 11, 70, 73, 74, 84, 85, 86, 87, 88, 89, 90, 91, 92, 93, 94, 95, 96] (.block 1 (.seq (.ops [(I 21 (.mv (.t 2))), (I 22 (.mv (.t 1))), (I 23 (.bin .sub (.t 21) (.t 22))), (I 12 (.mv (.t 23)))])
 (.seq (.seq (.ops [(I 24 (.mv (.t 12))), (I 25 (.bin .leq (.t 24) (.k (.int .i64 12))))])
 (.cond (.t 25) (.seq (.ops [(I 26 (.mv (.t 0))), (I 27 (.mv (.t 1))), (I 28 (.mv (.t 2))), (I 29 (.mv (.t 4))), (I 30 (.call 39 [(.t 26), (.t 27), (.t 28), (.t 29)]))])
 .ret) .skip))
 (.seq (.seq (.ops [(I 31 (.mv (.t 3))), (I 32 (.bin .eql (.t 31) (.k (.int .i64 0))))])
 (.cond (.t 32) (.seq (.ops [(I 33 (.mv (.t 0))), (I 34 (.mv (.t 1))), (I 35 (.mv (.t 2))), (I 36 (.mv (.t 4))), (I 37 (.call 194 [(.t 33), (.t 34), (.t 35), (.t 36)]))])
 .ret) .skip))
 (.seq (.seq (.ops [(I 38 (.mv (.t 10))), (I 39 (.un .not (.t 38)))])
 (.cond (.t 39) (.seq (.ops [(I 40 (.mv (.t 0))), (I 41 (.mv (.t 1))), (I 42 (.mv (.t 2))), (I 43 (.mv (.t 4))), (I 44 (.call 190 [(.t 40), (.t 41), (.t 42), (.t 43)]))])
 (.ops [(I 45 (.mv (.t 3))), (I 46 (.bin .sub (.t 45) (.k (.int .i64 1)))), (I 3 (.mv (.t 46)))])) .skip))
 (.seq (.ops [(I 48 (.mv (.t 0))), (I 49 (.mv (.t 1))), (I 50 (.mv (.t 2))), (I 51 (.mv (.t 4))), (I 52 (.call 38 [(.t 48), (.t 49), (.t 50), (.t 51)])), (I 47 (.mv (.t 52))), (I 53 (.ext 0 (.t 47))), (I 54 (.ext 1 (.t 47))), (I 13 (.mv (.t 53))), (I 14 (.mv (.t 54)))])
 (.seq (.seq (.ops [(I 55 (.mv (.t 14))), (I 56 (.bin .eql (.t 55) (.k (.int .i64 2))))])
 (.cond (.t 56) (.seq (.ops [(I 57 (.mv (.t 0))), (I 58 (.mv (.t 1))), (I 59 (.mv (.t 2))), (I 60 (.mv (.t 4))), (I 61 (.call 201 [(.t 57), (.t 58), (.t 59), (.t 60)]))])
 (.seq (.ops [(I 62 (.mv (.t 2))), (I 63 (.bin .sub (.t 62) (.k (.int .i64 1)))), (I 64 (.mv (.t 13))), (I 65 (.mv (.t 1))), (I 66 (.bin .sub (.t 64) (.t 65))), (I 67 (.bin .sub (.t 63) (.t 66))), (I 13 (.mv (.t 67)))])
 (.ops [(I 14 (.mv (.k (.int .i64 1))))]))) .skip))
 (.seq (.seq (.ops [(I 68 (.mv (.t 10))), (I 69 (.mv (.t 68))),
  ⟨some 70, .mv (.t 11), some (69, true)⟩, (I 71 (.pick (.t 69) (.t 70) (.k (.bool false)))), (I 72 (.mv (.t 71))),
  ⟨some 73, .mv (.t 14), some (72, true)⟩,
  ⟨some 74, .bin .eql (.t 73) (.k (.int .i64 1)), some (72, true)⟩, (I 75 (.pick (.t 72) (.t 74) (.k (.bool false))))])
 (.cond (.t 75) (.seq (.ops [(I 76 (.mv (.t 0))), (I 77 (.mv (.t 1))), (I 78 (.mv (.t 2))), (I 79 (.mv (.t 4))), (I 80 (.call 42 [(.t 76), (.t 77), (.t 78), (.t 79)]))])
 (.cond (.t 80) .ret .skip)) .skip))
 (.seq (.seq (.dops [(I 81 (.mv (.t 1))), (I 82 (.bin .gtr (.t 81) (.k (.int .i64 0)))), (I 83 (.mv (.t 82))),
  ⟨some 84, .mv (.t 4), some (83, true)⟩,
  ⟨some 85, .mv (.t 0), some (83, true)⟩,
  ⟨some 86, .mv (.t 1), some (83, true)⟩,
  ⟨some 87, .bin .sub (.t 86) (.k (.int .i64 1)), some (83, true)⟩,
  ⟨some 88, .ix 2 (.t 85) (.t 87), some (83, true)⟩,
  ⟨some 89, .ld 2 true (.t 88), some (83, true)⟩,
  ⟨some 90, .mv (.t 0), some (83, true)⟩,
  ⟨some 91, .mv (.t 13), some (83, true)⟩,
  ⟨some 92, .ix 2 (.t 90) (.t 91), some (83, true)⟩,
  ⟨some 93, .ld 2 true (.t 92), some (83, true)⟩,
  ⟨some 94, .callv (.t 84) [(.t 89), (.t 93)], some (83, true)⟩,
  ⟨some 95, .bin .lss (.t 94) (.k (.int .i64 0)), some (83, true)⟩,
  ⟨some 96, .un .not (.t 95), some (83, true)⟩, (I 97 (.pick (.t 83) (.t 96) (.k (.bool false))))])
 (.cond (.t 97) (.seq (.ops [(I 98 (.mv (.t 0))), (I 99 (.mv (.t 1))), (I 100 (.mv (.t 2))), (I 101 (.mv (.t 13))), (I 102 (.mv (.t 4))), (I 103 (.call 198 [(.t 98), (.t 99), (.t 100), (.t 101), (.t 102)])), (I 15 (.mv (.t 103)))])
 (.seq (.ops [(I 104 (.mv (.t 15))), (I 1 (.mv (.t 104)))])
 (.exit 1))) .skip))
 (.seq (.ops [(I 106 (.mv (.t 0))), (I 107 (.mv (.t 1))), (I 108 (.mv (.t 2))), (I 109 (.mv (.t 13))), (I 110 (.mv (.t 4))), (I 111 (.call 197 [(.t 106), (.t 107), (.t 108), (.t 109), (.t 110)])), (I 105 (.mv (.t 111))), (I 112 (.ext 0 (.t 105))), (I 113 (.ext 1 (.t 105))), (I 16 (.mv (.t 112))), (I 17 (.mv (.t 113)))])
 (.seq (.ops [(I 114 (.mv (.t 17))), (I 11 (.mv (.t 114)))])
 (.seq (.ops [(I 115 (.mv (.t 16))), (I 116 (.mv (.t 1))), (I 117 (.bin .sub (.t 115) (.t 116))), (I 118 (.mv (.t 2))), (I 119 (.mv (.t 16))), (I 120 (.bin .sub (.t 118) (.t 119))), (I 18 (.mv (.t 117))), (I 19 (.mv (.t 120)))])
 (.seq (.ops [(I 121 (.mv (.t 12))), (I 122 (.bin .quo (.t 121) (.k (.int .i64 8)))), (I 20 (.mv (.t 122)))])
 (.seq (.ops [(I 123 (.mv (.t 18))), (I 124 (.mv (.t 19))), (I 125 (.bin .lss (.t 123) (.t 124)))])
 (.cond (.t 125) (.seq (.ops [(I 126 (.mv (.t 18))), (I 127 (.mv (.t 20))), (I 128 (.bin .geq (.t 126) (.t 127))), (I 10 (.mv (.t 128)))])
 (.seq (.ops [(I 129 (.mv (.t 0))), (I 130 (.mv (.t 1))), (I 131 (.mv (.t 16))), (I 132 (.mv (.t 3))), (I 133 (.mv (.t 4))), (I 134 (.call 35 [(.t 129), (.t 130), (.t 131), (.t 132), (.t 133)]))])
 (.ops [(I 135 (.mv (.t 16))), (I 136 (.bin .add (.t 135) (.k (.int .i64 1)))), (I 1 (.mv (.t 136)))]))) (.seq (.ops [(I 137 (.mv (.t 19))), (I 138 (.mv (.t 20))), (I 139 (.bin .geq (.t 137) (.t 138))), (I 10 (.mv (.t 139)))])
 (.seq (.ops [(I 140 (.mv (.t 0))), (I 141 (.mv (.t 16))), (I 142 (.bin .add (.t 141) (.k (.int .i64 1)))), (I 143 (.mv (.t 2))), (I 144 (.mv (.t 3))), (I 145 (.mv (.t 4))), (I 146 (.call 35 [(.t 140), (.t 142), (.t 143), (.t 144), (.t 145)]))])
 (.ops [(I 147 (.mv (.t 16))), (I 2 (.mv (.t 147)))])))))))))))))))))))))), [], false⟩
/-- slices.pdqsortOrdered[int] -/
def a36 : AFn := ⟨4, (.seq (.ops [(I 8 (.mv (.k (.bool true))))])
 (.seq (.ops [(I 9 (.mv (.k (.bool true))))])
 (.block 0 (.loop [0, 1, 2, 3, 8, 9, 63, 66, 67, 76, 77, 78, 79, 80, 81, 82, 83, 84, 85, 86] (.block 1 (.seq (.ops [(I 19 (.mv (.t 2))), (I 20 (.mv (.t 1))), (I 21 (.bin .sub (.t 19) (.t 20))), (I 10 (.mv (.t 21)))])
 (.seq (.seq (.ops [(I 22 (.mv (.t 10))), (I 23 (.bin .leq (.t 22) (.k (.int .i64 12))))])
 (.cond (.t 23) (.seq (.ops [(I 24 (.mv (.t 0))), (I 25 (.mv (.t 1))), (I 26 (.mv (.t 2))), (I 27 (.call 40 [(.t 24), (.t 25), (.t 26)]))])
 .ret) .skip))
 (.seq (.seq (.ops [(I 28 (.mv (.t 3))), (I 29 (.bin .eql (.t 28) (.k (.int .i64 0))))])
 (.cond (.t 29) (.seq (.ops [(I 30 (.mv (.t 0))), (I 31 (.mv (.t 1))), (I 32 (.mv (.t 2))), (I 33 (.call 195 [(.t 30), (.t 31), (.t 32)]))])
 .ret) .skip))
 (.seq (.seq (.ops [(I 34 (.mv (.t 8))), (I 35 (.un .not (.t 34)))])
 (.cond (.t 35) (.seq (.ops [(I 36 (.mv (.t 0))), (I 37 (.mv (.t 1))), (I 38 (.mv (.t 2))), (I 39 (.call 191 [(.t 36), (.t 37), (.t 38)]))])
 (.ops [(I 40 (.mv (.t 3))), (I 41 (.bin .sub (.t 40) (.k (.int .i64 1)))), (I 3 (.mv (.t 41)))])) .skip))
 (.seq (.ops [(I 43 (.mv (.t 0))), (I 44 (.mv (.t 1))), (I 45 (.mv (.t 2))), (I 46 (.call 193 [(.t 43), (.t 44), (.t 45)])), (I 42 (.mv (.t 46))), (I 47 (.ext 0 (.t 42))), (I 48 (.ext 1 (.t 42))), (I 11 (.mv (.t 47))), (I 12 (.mv (.t 48)))])
 (.seq (.seq (.ops [(I 49 (.mv (.t 12))), (I 50 (.bin .eql (.t 49) (.k (.int .i64 2))))])
 (.cond (.t 50) (.seq (.ops [(I 51 (.mv (.t 0))), (I 52 (.mv (.t 1))), (I 53 (.mv (.t 2))), (I 54 (.call 202 [(.t 51), (.t 52), (.t 53)]))])
 (.seq (.ops [(I 55 (.mv (.t 2))), (I 56 (.bin .sub (.t 55) (.k (.int .i64 1)))), (I 57 (.mv (.t 11))), (I 58 (.mv (.t 1))), (I 59 (.bin .sub (.t 57) (.t 58))), (I 60 (.bin .sub (.t 56) (.t 59))), (I 11 (.mv (.t 60)))])
 (.ops [(I 12 (.mv (.k (.int .i64 1))))]))) .skip))
 (.seq (.seq (.ops [(I 61 (.mv (.t 8))), (I 62 (.mv (.t 61))),
  ⟨some 63, .mv (.t 9), some (62, true)⟩, (I 64 (.pick (.t 62) (.t 63) (.k (.bool false)))), (I 65 (.mv (.t 64))),
  ⟨some 66, .mv (.t 12), some (65, true)⟩,
  ⟨some 67, .bin .eql (.t 66) (.k (.int .i64 1)), some (65, true)⟩, (I 68 (.pick (.t 65) (.t 67) (.k (.bool false))))])
 (.cond (.t 68) (.seq (.ops [(I 69 (.mv (.t 0))), (I 70 (.mv (.t 1))), (I 71 (.mv (.t 2))), (I 72 (.call 196 [(.t 69), (.t 70), (.t 71)]))])
 (.cond (.t 72) .ret .skip)) .skip))
 (.seq (.seq (.dops [(I 73 (.mv (.t 1))), (I 74 (.bin .gtr (.t 73) (.k (.int .i64 0)))), (I 75 (.mv (.t 74))),
  ⟨some 76, .mv (.t 0), some (75, true)⟩,
  ⟨some 77, .mv (.t 1), some (75, true)⟩,
  ⟨some 78, .bin .sub (.t 77) (.k (.int .i64 1)), some (75, true)⟩,
  ⟨some 79, .ix 1 (.t 76) (.t 78), some (75, true)⟩,
  ⟨some 80, .ld 1 false (.t 79), some (75, true)⟩,
  ⟨some 81, .mv (.t 0), some (75, true)⟩,
  ⟨some 82, .mv (.t 11), some (75, true)⟩,
  ⟨some 83, .ix 1 (.t 81) (.t 82), some (75, true)⟩,
  ⟨some 84, .ld 1 false (.t 83), some (75, true)⟩,
  ⟨some 85, .call 21 [(.t 80), (.t 84)], some (75, true)⟩,
  ⟨some 86, .un .not (.t 85), some (75, true)⟩, (I 87 (.pick (.t 75) (.t 86) (.k (.bool false))))])
 (.cond (.t 87) (.seq (.ops [(I 88 (.mv (.t 0))), (I 89 (.mv (.t 1))), (I 90 (.mv (.t 2))), (I 91 (.mv (.t 11))), (I 92 (.call 199 [(.t 88), (.t 89), (.t 90), (.t 91)])), (I 13 (.mv (.t 92)))])
 (.seq (.ops [(I 93 (.mv (.t 13))), (I 1 (.mv (.t 93)))])
 (.exit 1))) .skip))
 (.seq (.ops [(I 95 (.mv (.t 0))), (I 96 (.mv (.t 1))), (I 97 (.mv (.t 2))), (I 98 (.mv (.t 11))), (I 99 (.call 200 [(.t 95), (.t 96), (.t 97), (.t 98)])), (I 94 (.mv (.t 99))), (I 100 (.ext 0 (.t 94))), (I 101 (.ext 1 (.t 94))), (I 14 (.mv (.t 100))), (I 15 (.mv (.t 101)))])
 (.seq (.ops [(I 102 (.mv (.t 15))), (I 9 (.mv (.t 102)))])
 (.seq (.ops [(I 103 (.mv (.t 14))), (I 104 (.mv (.t 1))), (I 105 (.bin .sub (.t 103) (.t 104))), (I 106 (.mv (.t 2))), (I 107 (.mv (.t 14))), (I 108 (.bin .sub (.t 106) (.t 107))), (I 16 (.mv (.t 105))), (I 17 (.mv (.t 108)))])
 (.seq (.ops [(I 109 (.mv (.t 10))), (I 110 (.bin .quo (.t 109) (.k (.int .i64 8)))), (I 18 (.mv (.t 110)))])
 (.seq (.ops [(I 111 (.mv (.t 16))), (I 112 (.mv (.t 17))), (I 113 (.bin .lss (.t 111) (.t 112)))])
 (.cond (.t 113) (.seq (.ops [(I 114 (.mv (.t 16))), (I 115 (.mv (.t 18))), (I 116 (.bin .geq (.t 114) (.t 115))), (I 8 (.mv (.t 116)))])
 (.seq (.ops [(I 117 (.mv (.t 0))), (I 118 (.mv (.t 1))), (I 119 (.mv (.t 14))), (I 120 (.mv (.t 3))), (I 121 (.call 36 [(.t 117), (.t 118), (.t 119), (.t 120)]))])
 (.ops [(I 122 (.mv (.t 14))), (I 123 (.bin .add (.t 122) (.k (.int .i64 1)))), (I 1 (.mv (.t 123)))]))) (.seq (.ops [(I 124 (.mv (.t 17))), (I 125 (.mv (.t 18))), (I 126 (.bin .geq (.t 124) (.t 125))), (I 8 (.mv (.t 126)))])
 (.seq (.ops [(I 127 (.mv (.t 0))), (I 128 (.mv (.t 14))), (I 129 (.bin .add (.t 128) (.k (.int .i64 1)))), (I 130 (.mv (.t 2))), (I 131 (.mv (.t 3))), (I 132 (.call 36 [(.t 127), (.t 129), (.t 130), (.t 131)]))])
 (.ops [(I 133 (.mv (.t 14))), (I 2 (.mv (.t 133)))])))))))))))))))))))))), [], false⟩
/-- slices.medianCmpFunc[eyot/dfa.spot] -/
def a37 : AFn := ⟨6, (.seq (.ops [(I 12 (.mv (.k (.int .i64 0))))])
 (.seq (.ops [(I 14 (.mv (.t 0))), (I 15 (.mv (.t 1))), (I 16 (.mv (.t 2))), (I 17 (.mv (.t 4))), (I 18 (.mv (.t 5))), (I 19 (.call 41 [(.t 14), (.t 15), (.t 16), (.t 17), (.t 18)])), (I 13 (.mv (.t 19))), (I 20 (.ext 0 (.t 13))), (I 21 (.ext 1 (.t 13))), (I 1 (.mv (.t 20))), (I 2 (.mv (.t 21)))])
 (.seq (.ops [(I 23 (.mv (.t 0))), (I 24 (.mv (.t 2))), (I 25 (.mv (.t 3))), (I 26 (.mv (.t 4))), (I 27 (.mv (.t 5))), (I 28 (.call 41 [(.t 23), (.t 24), (.t 25), (.t 26), (.t 27)])), (I 22 (.mv (.t 28))), (I 29 (.ext 0 (.t 22))), (I 30 (.ext 1 (.t 22))), (I 2 (.mv (.t 29))), (I 3 (.mv (.t 30)))])
 (.seq (.ops [(I 32 (.mv (.t 0))), (I 33 (.mv (.t 1))), (I 34 (.mv (.t 2))), (I 35 (.mv (.t 4))), (I 36 (.mv (.t 5))), (I 37 (.call 41 [(.t 32), (.t 33), (.t 34), (.t 35), (.t 36)])), (I 31 (.mv (.t 37))), (I 38 (.ext 0 (.t 31))), (I 39 (.ext 1 (.t 31))), (I 1 (.mv (.t 38))), (I 2 (.mv (.t 39)))])
 (.seq (.ops [(I 40 (.mv (.t 2))), (I 12 (.mv (.t 40)))])
 .ret))))), [.tmp 12], false⟩
/-- slices.choosePivotCmpFunc[eyot/dfa.spot] -/
def a38 : AFn := ⟨4, (.seq (.ops [(I 8 (.mv (.k (.int .i64 0)))), (I 9 (.mv (.k (.int .i64 0))))])
 (.seq (.ops [(I 15 (.mv (.t 2))), (I 16 (.mv (.t 1))), (I 17 (.bin .sub (.t 15) (.t 16))), (I 10 (.mv (.t 17)))])
 (.seq (.ops [(I 11 (.aob ([.int .i64 0])))])
 (.seq (.ops [(I 18 (.mv (.t 1))), (I 19 (.mv (.t 10))), (I 20 (.bin .quo (.t 19) (.k (.int .i64 4)))), (I 21 (.bin .mul (.t 20) (.k (.int .i64 1)))), (I 22 (.bin .add (.t 18) (.t 21))), (I 12 (.mv (.t 22)))])
 (.seq (.ops [(I 23 (.mv (.t 1))), (I 24 (.mv (.t 10))), (I 25 (.bin .quo (.t 24) (.k (.int .i64 4)))), (I 26 (.bin .mul (.t 25) (.k (.int .i64 2)))), (I 27 (.bin .add (.t 23) (.t 26))), (I 13 (.mv (.t 27)))])
 (.seq (.ops [(I 28 (.mv (.t 1))), (I 29 (.mv (.t 10))), (I 30 (.bin .quo (.t 29) (.k (.int .i64 4)))), (I 31 (.bin .mul (.t 30) (.k (.int .i64 3)))), (I 32 (.bin .add (.t 28) (.t 31))), (I 14 (.mv (.t 32)))])
 (.seq (.seq (.ops [(I 33 (.mv (.t 10))), (I 34 (.bin .geq (.t 33) (.k (.int .i64 8))))])
 (.cond (.t 34) (.seq (.seq (.ops [(I 35 (.mv (.t 10))), (I 36 (.bin .geq (.t 35) (.k (.int .i64 50))))])
 (.cond (.t 36) (.seq (.ops [(I 37 (.mv (.t 0))), (I 38 (.mv (.t 12))), (I 39 (.mv (.t 3))), (I 40 (.call 192 [(.t 37), (.t 38), (.t 11), (.t 39)])), (I 12 (.mv (.t 40)))])
 (.seq (.ops [(I 41 (.mv (.t 0))), (I 42 (.mv (.t 13))), (I 43 (.mv (.t 3))), (I 44 (.call 192 [(.t 41), (.t 42), (.t 11), (.t 43)])), (I 13 (.mv (.t 44)))])
 (.ops [(I 45 (.mv (.t 0))), (I 46 (.mv (.t 14))), (I 47 (.mv (.t 3))), (I 48 (.call 192 [(.t 45), (.t 46), (.t 11), (.t 47)])), (I 14 (.mv (.t 48)))]))) .skip))
 (.ops [(I 49 (.mv (.t 0))), (I 50 (.mv (.t 12))), (I 51 (.mv (.t 13))), (I 52 (.mv (.t 14))), (I 53 (.mv (.t 3))), (I 54 (.call 37 [(.t 49), (.t 50), (.t 51), (.t 52), (.t 11), (.t 53)])), (I 13 (.mv (.t 54)))])) .skip))
 (.seq (.ops [(I 55 (.ldo 1 false (.t 11)))])
 (.block 0 (.seq (.ops [(I 58 (.bin .eql (.t 55) (.k (.int .i64 0)))), (I 57 (.mv (.t 58)))])
 (.cond (.t 57) (.seq (.ops [(I 59 (.mv (.t 13))), (I 8 (.mv (.t 59))), (I 9 (.mv (.k (.int .i64 1))))])
 .ret) (.seq (.ops [(I 61 (.bin .eql (.t 55) (.k (.int .i64 12)))), (I 60 (.mv (.t 61)))])
 (.cond (.t 60) (.seq (.ops [(I 62 (.mv (.t 13))), (I 8 (.mv (.t 62))), (I 9 (.mv (.k (.int .i64 2))))])
 .ret) (.seq (.ops [(I 56 (.mv (.t 13))), (I 8 (.mv (.t 56))), (I 9 (.mv (.k (.int .i64 0))))])
 .ret)))))))))))))), [.tmp 8, .tmp 9], false⟩
/-- slices.insertionSortCmpFunc[eyot/dfa.spot] -/
def a39 : AFn := ⟨4, (.seq (.ops [(I 10 (.mv (.t 1))), (I 11 (.bin .add (.t 10) (.k (.int .i64 1)))), (I 8 (.mv (.t 11)))])
 (.block 0 (.loop [0, 1, 2, 3, 8, 22, 23, 24, 25, 26, 27, 28, 29, 30, 31, 32, 33] (.seq (.seq (.ops [(I 12 (.mv (.t 8))), (I 13 (.mv (.t 2))), (I 14 (.bin .lss (.t 12) (.t 13)))])
 (.cond (.t 14) .skip (.exit 0)))
 (.seq (.block 1 (.seq (.ops [(I 17 (.mv (.t 8))), (I 9 (.mv (.t 17)))])
 (.block 2 (.loop [0, 1, 2, 3, 8, 9, 22, 23, 24, 25, 26, 27, 28, 29, 30, 31, 32, 33] (.seq (.seq (.dops [(I 18 (.mv (.t 9))), (I 19 (.mv (.t 1))), (I 20 (.bin .gtr (.t 18) (.t 19))), (I 21 (.mv (.t 20))),
  ⟨some 22, .mv (.t 3), some (21, true)⟩,
  ⟨some 23, .mv (.t 0), some (21, true)⟩,
  ⟨some 24, .mv (.t 9), some (21, true)⟩,
  ⟨some 25, .ix 2 (.t 23) (.t 24), some (21, true)⟩,
  ⟨some 26, .ld 2 true (.t 25), some (21, true)⟩,
  ⟨some 27, .mv (.t 0), some (21, true)⟩,
  ⟨some 28, .mv (.t 9), some (21, true)⟩,
  ⟨some 29, .bin .sub (.t 28) (.k (.int .i64 1)), some (21, true)⟩,
  ⟨some 30, .ix 2 (.t 27) (.t 29), some (21, true)⟩,
  ⟨some 31, .ld 2 true (.t 30), some (21, true)⟩,
  ⟨some 32, .callv (.t 22) [(.t 26), (.t 31)], some (21, true)⟩,
  ⟨some 33, .bin .lss (.t 32) (.k (.int .i64 0)), some (21, true)⟩, (I 34 (.pick (.t 21) (.t 33) (.k (.bool false))))])
 (.cond (.t 34) .skip (.exit 2)))
 (.seq (.block 3 (.dops [(I 37 (.mv (.t 0))), (I 38 (.mv (.t 9))), (I 39 (.mv (.t 0))), (I 40 (.mv (.t 9))), (I 41 (.bin .sub (.t 40) (.k (.int .i64 1)))), (I 42 (.mv (.t 0))), (I 43 (.mv (.t 9))), (I 44 (.bin .sub (.t 43) (.k (.int .i64 1)))), (I 45 (.ix 2 (.t 42) (.t 44))), (I 46 (.ld 2 true (.t 45))), (I 47 (.mv (.t 0))), (I 48 (.mv (.t 9))), (I 49 (.ix 2 (.t 47) (.t 48))), (I 50 (.ld 2 true (.t 49))), (I 51 (.ix 2 (.t 37) (.t 38))),
  ⟨none, .st 2 (.t 51) (.t 46), none⟩, (I 52 (.ix 2 (.t 39) (.t 41))),
  ⟨none, .st 2 (.t 52) (.t 50), none⟩]))
 (.ops [(I 35 (.mv (.t 9))), (I 36 (.bin .sub (.t 35) (.k (.int .i64 1)))), (I 9 (.mv (.t 36)))])))))))
 (.ops [(I 15 (.mv (.t 8))), (I 16 (.bin .add (.t 15) (.k (.int .i64 1)))), (I 8 (.mv (.t 16)))])))))), [], false⟩
/-- slices.insertionSortOrdered[int] -/
def a40 : AFn := ⟨3, (.seq (.ops [(I 8 (.mv (.t 1))), (I 9 (.bin .add (.t 8) (.k (.int .i64 1)))), (I 6 (.mv (.t 9)))])
 (.block 0 (.loop [0, 1, 2, 6, 20, 21, 22, 23, 24, 25, 26, 27, 28, 29] (.seq (.seq (.ops [(I 10 (.mv (.t 6))), (I 11 (.mv (.t 2))), (I 12 (.bin .lss (.t 10) (.t 11)))])
 (.cond (.t 12) .skip (.exit 0)))
 (.seq (.block 1 (.seq (.ops [(I 15 (.mv (.t 6))), (I 7 (.mv (.t 15)))])
 (.block 2 (.loop [0, 1, 2, 6, 7, 20, 21, 22, 23, 24, 25, 26, 27, 28, 29] (.seq (.seq (.dops [(I 16 (.mv (.t 7))), (I 17 (.mv (.t 1))), (I 18 (.bin .gtr (.t 16) (.t 17))), (I 19 (.mv (.t 18))),
  ⟨some 20, .mv (.t 0), some (19, true)⟩,
  ⟨some 21, .mv (.t 7), some (19, true)⟩,
  ⟨some 22, .ix 1 (.t 20) (.t 21), some (19, true)⟩,
  ⟨some 23, .ld 1 false (.t 22), some (19, true)⟩,
  ⟨some 24, .mv (.t 0), some (19, true)⟩,
  ⟨some 25, .mv (.t 7), some (19, true)⟩,
  ⟨some 26, .bin .sub (.t 25) (.k (.int .i64 1)), some (19, true)⟩,
  ⟨some 27, .ix 1 (.t 24) (.t 26), some (19, true)⟩,
  ⟨some 28, .ld 1 false (.t 27), some (19, true)⟩,
  ⟨some 29, .call 21 [(.t 23), (.t 28)], some (19, true)⟩, (I 30 (.pick (.t 19) (.t 29) (.k (.bool false))))])
 (.cond (.t 30) .skip (.exit 2)))
 (.seq (.block 3 (.dops [(I 33 (.mv (.t 0))), (I 34 (.mv (.t 7))), (I 35 (.mv (.t 0))), (I 36 (.mv (.t 7))), (I 37 (.bin .sub (.t 36) (.k (.int .i64 1)))), (I 38 (.mv (.t 0))), (I 39 (.mv (.t 7))), (I 40 (.bin .sub (.t 39) (.k (.int .i64 1)))), (I 41 (.ix 1 (.t 38) (.t 40))), (I 42 (.ld 1 false (.t 41))), (I 43 (.mv (.t 0))), (I 44 (.mv (.t 7))), (I 45 (.ix 1 (.t 43) (.t 44))), (I 46 (.ld 1 false (.t 45))), (I 47 (.ix 1 (.t 33) (.t 34))),
  ⟨none, .st 1 (.t 47) (.t 42), none⟩, (I 48 (.ix 1 (.t 35) (.t 37))),
  ⟨none, .st 1 (.t 48) (.t 46), none⟩]))
 (.ops [(I 31 (.mv (.t 7))), (I 32 (.bin .sub (.t 31) (.k (.int .i64 1)))), (I 7 (.mv (.t 32)))])))))))
 (.ops [(I 13 (.mv (.t 6))), (I 14 (.bin .add (.t 13) (.k (.int .i64 1)))), (I 6 (.mv (.t 14)))])))))), [], false⟩
/-- slices.order2CmpFunc[eyot/dfa.spot] -/
def a41 : AFn := ⟨5, (.seq (.ops [(I 10 (.mv (.k (.int .i64 0)))), (I 11 (.mv (.k (.int .i64 0))))])
 (.seq (.seq (.dops [(I 12 (.mv (.t 4))), (I 13 (.mv (.t 0))), (I 14 (.mv (.t 2))), (I 15 (.ix 2 (.t 13) (.t 14))), (I 16 (.ld 2 true (.t 15))), (I 17 (.mv (.t 0))), (I 18 (.mv (.t 1))), (I 19 (.ix 2 (.t 17) (.t 18))), (I 20 (.ld 2 true (.t 19))), (I 21 (.callv (.t 12) [(.t 16), (.t 20)])), (I 22 (.bin .lss (.t 21) (.k (.int .i64 0))))])
 (.cond (.t 22) (.seq (.ops [(I 23 (.mv (.t 3))), (I 24 (.nilc (.t 23))), (I 25 (.ld 1 false (.t 24))), (I 26 (.bin .add (.t 25) (.k (.int .i64 1)))), (I 27 (.nilc (.t 23))),
  ⟨none, .st 1 (.t 27) (.t 26), none⟩])
 (.seq (.ops [(I 28 (.mv (.t 2))), (I 29 (.mv (.t 1))), (I 10 (.mv (.t 28))), (I 11 (.mv (.t 29)))])
 .ret)) .skip))
 (.seq (.ops [(I 30 (.mv (.t 1))), (I 31 (.mv (.t 2))), (I 10 (.mv (.t 30))), (I 11 (.mv (.t 31)))])
 .ret))), [.tmp 10, .tmp 11], false⟩
/-- slices.partialInsertionSortCmpFunc[eyot/dfa.spot] -/
def a42 : AFn := ⟨4, (.seq (.ops [(I 8 (.mv (.k (.bool false))))])
 (.seq (.ops [(I 13 (.mv (.t 1))), (I 14 (.bin .add (.t 13) (.k (.int .i64 1)))), (I 9 (.mv (.t 14)))])
 (.seq (.seq (.ops [(I 10 (.mv (.k (.int .i64 0))))])
 (.block 0 (.loop [0, 1, 2, 3, 9, 10, 23, 24, 25, 26, 27, 28, 29, 30, 31, 32, 33, 34, 35] (.seq (.seq (.ops [(I 15 (.mv (.t 10))), (I 16 (.bin .lss (.t 15) (.k (.int .i64 5))))])
 (.cond (.t 16) .skip (.exit 0)))
 (.seq (.block 1 (.seq (.block 2 (.loop [0, 1, 2, 3, 9, 10, 23, 24, 25, 26, 27, 28, 29, 30, 31, 32, 33, 34, 35] (.seq (.seq (.dops [(I 19 (.mv (.t 9))), (I 20 (.mv (.t 2))), (I 21 (.bin .lss (.t 19) (.t 20))), (I 22 (.mv (.t 21))),
  ⟨some 23, .mv (.t 3), some (22, true)⟩,
  ⟨some 24, .mv (.t 0), some (22, true)⟩,
  ⟨some 25, .mv (.t 9), some (22, true)⟩,
  ⟨some 26, .ix 2 (.t 24) (.t 25), some (22, true)⟩,
  ⟨some 27, .ld 2 true (.t 26), some (22, true)⟩,
  ⟨some 28, .mv (.t 0), some (22, true)⟩,
  ⟨some 29, .mv (.t 9), some (22, true)⟩,
  ⟨some 30, .bin .sub (.t 29) (.k (.int .i64 1)), some (22, true)⟩,
  ⟨some 31, .ix 2 (.t 28) (.t 30), some (22, true)⟩,
  ⟨some 32, .ld 2 true (.t 31), some (22, true)⟩,
  ⟨some 33, .callv (.t 23) [(.t 27), (.t 32)], some (22, true)⟩,
  ⟨some 34, .bin .lss (.t 33) (.k (.int .i64 0)), some (22, true)⟩,
  ⟨some 35, .un .not (.t 34), some (22, true)⟩, (I 36 (.pick (.t 22) (.t 35) (.k (.bool false))))])
 (.cond (.t 36) .skip (.exit 2)))
 (.block 3 (.ops [(I 37 (.mv (.t 9))), (I 38 (.bin .add (.t 37) (.k (.int .i64 1)))), (I 9 (.mv (.t 38)))])))))
 (.seq (.seq (.ops [(I 39 (.mv (.t 9))), (I 40 (.mv (.t 2))), (I 41 (.bin .eql (.t 39) (.t 40)))])
 (.cond (.t 41) (.seq (.ops [(I 8 (.mv (.k (.bool true))))])
 .ret) .skip))
 (.seq (.seq (.ops [(I 42 (.mv (.t 2))), (I 43 (.mv (.t 1))), (I 44 (.bin .sub (.t 42) (.t 43))), (I 45 (.bin .lss (.t 44) (.k (.int .i64 50))))])
 (.cond (.t 45) (.seq (.ops [(I 8 (.mv (.k (.bool false))))])
 .ret) .skip))
 (.seq (.dops [(I 46 (.mv (.t 0))), (I 47 (.mv (.t 9))), (I 48 (.mv (.t 0))), (I 49 (.mv (.t 9))), (I 50 (.bin .sub (.t 49) (.k (.int .i64 1)))), (I 51 (.mv (.t 0))), (I 52 (.mv (.t 9))), (I 53 (.bin .sub (.t 52) (.k (.int .i64 1)))), (I 54 (.ix 2 (.t 51) (.t 53))), (I 55 (.ld 2 true (.t 54))), (I 56 (.mv (.t 0))), (I 57 (.mv (.t 9))), (I 58 (.ix 2 (.t 56) (.t 57))), (I 59 (.ld 2 true (.t 58))), (I 60 (.ix 2 (.t 46) (.t 47))),
  ⟨none, .st 2 (.t 60) (.t 55), none⟩, (I 61 (.ix 2 (.t 48) (.t 50))),
  ⟨none, .st 2 (.t 61) (.t 59), none⟩])
 (.seq (.seq (.ops [(I 62 (.mv (.t 9))), (I 63 (.mv (.t 1))), (I 64 (.bin .sub (.t 62) (.t 63))), (I 65 (.bin .geq (.t 64) (.k (.int .i64 2))))])
 (.cond (.t 65) (.seq (.ops [(I 66 (.mv (.t 9))), (I 67 (.bin .sub (.t 66) (.k (.int .i64 1)))), (I 11 (.mv (.t 67)))])
 (.block 4 (.loop [0, 1, 2, 3, 9, 10, 11, 23, 24, 25, 26, 27, 28, 29, 30, 31, 32, 33, 34, 35] (.seq (.seq (.ops [(I 68 (.mv (.t 11))), (I 69 (.bin .geq (.t 68) (.k (.int .i64 1))))])
 (.cond (.t 69) .skip (.exit 4)))
 (.seq (.block 5 (.seq (.seq (.dops [(I 72 (.mv (.t 3))), (I 73 (.mv (.t 0))), (I 74 (.mv (.t 11))), (I 75 (.ix 2 (.t 73) (.t 74))), (I 76 (.ld 2 true (.t 75))), (I 77 (.mv (.t 0))), (I 78 (.mv (.t 11))), (I 79 (.bin .sub (.t 78) (.k (.int .i64 1)))), (I 80 (.ix 2 (.t 77) (.t 79))), (I 81 (.ld 2 true (.t 80))), (I 82 (.callv (.t 72) [(.t 76), (.t 81)])), (I 83 (.bin .lss (.t 82) (.k (.int .i64 0)))), (I 84 (.un .not (.t 83)))])
 (.cond (.t 84) (.exit 4) .skip))
 (.dops [(I 85 (.mv (.t 0))), (I 86 (.mv (.t 11))), (I 87 (.mv (.t 0))), (I 88 (.mv (.t 11))), (I 89 (.bin .sub (.t 88) (.k (.int .i64 1)))), (I 90 (.mv (.t 0))), (I 91 (.mv (.t 11))), (I 92 (.bin .sub (.t 91) (.k (.int .i64 1)))), (I 93 (.ix 2 (.t 90) (.t 92))), (I 94 (.ld 2 true (.t 93))), (I 95 (.mv (.t 0))), (I 96 (.mv (.t 11))), (I 97 (.ix 2 (.t 95) (.t 96))), (I 98 (.ld 2 true (.t 97))), (I 99 (.ix 2 (.t 85) (.t 86))),
  ⟨none, .st 2 (.t 99) (.t 94), none⟩, (I 100 (.ix 2 (.t 87) (.t 89))),
  ⟨none, .st 2 (.t 100) (.t 98), none⟩])))
 (.ops [(I 70 (.mv (.t 11))), (I 71 (.bin .sub (.t 70) (.k (.int .i64 1)))), (I 11 (.mv (.t 71)))])))))) .skip))
 (.seq (.ops [(I 101 (.mv (.t 2))), (I 102 (.mv (.t 9))), (I 103 (.bin .sub (.t 101) (.t 102))), (I 104 (.bin .geq (.t 103) (.k (.int .i64 2))))])
 (.cond (.t 104) (.seq (.ops [(I 105 (.mv (.t 9))), (I 106 (.bin .add (.t 105) (.k (.int .i64 1)))), (I 12 (.mv (.t 106)))])
 (.block 6 (.loop [0, 1, 2, 3, 9, 10, 12, 23, 24, 25, 26, 27, 28, 29, 30, 31, 32, 33, 34, 35] (.seq (.seq (.ops [(I 107 (.mv (.t 12))), (I 108 (.mv (.t 2))), (I 109 (.bin .lss (.t 107) (.t 108)))])
 (.cond (.t 109) .skip (.exit 6)))
 (.seq (.block 7 (.seq (.seq (.dops [(I 112 (.mv (.t 3))), (I 113 (.mv (.t 0))), (I 114 (.mv (.t 12))), (I 115 (.ix 2 (.t 113) (.t 114))), (I 116 (.ld 2 true (.t 115))), (I 117 (.mv (.t 0))), (I 118 (.mv (.t 12))), (I 119 (.bin .sub (.t 118) (.k (.int .i64 1)))), (I 120 (.ix 2 (.t 117) (.t 119))), (I 121 (.ld 2 true (.t 120))), (I 122 (.callv (.t 112) [(.t 116), (.t 121)])), (I 123 (.bin .lss (.t 122) (.k (.int .i64 0)))), (I 124 (.un .not (.t 123)))])
 (.cond (.t 124) (.exit 6) .skip))
 (.dops [(I 125 (.mv (.t 0))), (I 126 (.mv (.t 12))), (I 127 (.mv (.t 0))), (I 128 (.mv (.t 12))), (I 129 (.bin .sub (.t 128) (.k (.int .i64 1)))), (I 130 (.mv (.t 0))), (I 131 (.mv (.t 12))), (I 132 (.bin .sub (.t 131) (.k (.int .i64 1)))), (I 133 (.ix 2 (.t 130) (.t 132))), (I 134 (.ld 2 true (.t 133))), (I 135 (.mv (.t 0))), (I 136 (.mv (.t 12))), (I 137 (.ix 2 (.t 135) (.t 136))), (I 138 (.ld 2 true (.t 137))), (I 139 (.ix 2 (.t 125) (.t 126))),
  ⟨none, .st 2 (.t 139) (.t 134), none⟩, (I 140 (.ix 2 (.t 127) (.t 129))),
  ⟨none, .st 2 (.t 140) (.t 138), none⟩])))
 (.ops [(I 110 (.mv (.t 12))), (I 111 (.bin .add (.t 110) (.k (.int .i64 1)))), (I 12 (.mv (.t 111)))])))))) .skip))))))))
 (.ops [(I 17 (.mv (.t 10))), (I 18 (.bin .add (.t 17) (.k (.int .i64 1)))), (I 10 (.mv (.t 18)))]))))))
 (.seq (.ops [(I 8 (.mv (.k (.bool false))))])
 .ret)))), [.tmp 8], false⟩
/-- (*eyot/class.reader).next -/
def a43 : AFn := ⟨1, (.seq (.ops [(I 2 (.mv (.k (.int .u8 0))))])
 (.seq (.seq (.dops [(I 3 (.mv (.t 0))), (I 4 (.nilc (.t 3))), (I 5 (.fa 1 1 false (.t 4))), (I 6 (.ldo 1 false (.t 5))), (I 7 (.mv (.t 0))), (I 8 (.nilc (.t 7))), (I 9 (.fa 0 1 false (.t 8))), (I 10 (.ldo 1 false (.t 9))), (I 11 (.lns (.t 10))), (I 12 (.bin .lss (.t 6) (.t 11)))])
 (.cond (.t 12) (.seq (.dops [(I 13 (.mv (.t 0))), (I 14 (.nilc (.t 13))), (I 15 (.fa 0 1 false (.t 14))), (I 16 (.ldo 1 false (.t 15))), (I 17 (.mv (.t 0))), (I 18 (.nilc (.t 17))), (I 19 (.fa 1 1 false (.t 18))), (I 20 (.ldo 1 false (.t 19))), (I 21 (.ixs (.t 16) (.t 20))), (I 2 (.mv (.t 21)))])
 .ret) .skip))
 (.seq (.ops [(I 2 (.mv (.k (.int .u8 0))))])
 .ret))), [.tmp 2], true⟩
/-- (*eyot/class.reader).take -/
def a44 : AFn := ⟨1, (.seq (.ops [(I 2 (.mv (.k (.int .u8 0))))])
 (.seq (.seq (.dops [(I 3 (.mv (.t 0))), (I 4 (.nilc (.t 3))), (I 5 (.fa 1 1 false (.t 4))), (I 6 (.ldo 1 false (.t 5))), (I 7 (.mv (.t 0))), (I 8 (.nilc (.t 7))), (I 9 (.fa 0 1 false (.t 8))), (I 10 (.ldo 1 false (.t 9))), (I 11 (.lns (.t 10))), (I 12 (.bin .geq (.t 6) (.t 11)))])
 (.cond (.t 12) (.ops [(I 13 (.bld (.agg ([])) [])), (I 14 (.mkif 1 (.t 13))),
  ⟨none, .pan (.t 14), none⟩]) .skip))
 (.seq (.ops [(I 15 (.mv (.t 0))), (I 16 (.nilc (.t 15))), (I 17 (.fa 1 1 false (.t 16))), (I 18 (.ld 1 false (.t 17))), (I 19 (.bin .add (.t 18) (.k (.int .i64 1)))), (I 20 (.nilc (.t 15))), (I 21 (.fa 1 1 false (.t 20))),
  ⟨none, .st 1 (.t 21) (.t 19), none⟩])
 (.seq (.dops [(I 22 (.mv (.t 0))), (I 23 (.nilc (.t 22))), (I 24 (.fa 0 1 false (.t 23))), (I 25 (.ldo 1 false (.t 24))), (I 26 (.mv (.t 0))), (I 27 (.nilc (.t 26))), (I 28 (.fa 1 1 false (.t 27))), (I 29 (.ldo 1 false (.t 28))), (I 30 (.bin .sub (.t 29) (.k (.int .i64 1)))), (I 31 (.ixs (.t 25) (.t 30))), (I 2 (.mv (.t 31)))])
 .ret)))), [.tmp 2], false⟩
/-- eyot/class.Not -/
def a45 : AFn := ⟨1, (.seq (.ops [(I 1 (.bim 4 (.t 0))), (I 2 (.alv ([.int .u64 0, .int .u64 0, .int .u64 0, .int .u64 0])))])
 (.seq (.ops [(I 3 (.ldi 4 true (.t 1))), (I 4 (.ldi 4 true (.t 1))), (I 5 (.call 94 [(.t 3), (.t 4), (.k (.fn 97 []))])),
  ⟨none, .st 4 (.t 2) (.t 5), none⟩])
 .ret)), [.cell 2 4 true], true⟩
/-- (*eyot/class.reader).sign -/
def a46 : AFn := ⟨1, (.seq (.ops [(I 2 (.mv (.k (.int .u8 0))))])
 (.seq (.ops [(I 5 (.mv (.t 0))), (I 6 (.call 44 [(.t 5)])), (I 3 (.mv (.t 6)))])
 (.seq (.seq (.ops [(I 7 (.mv (.t 3))), (I 8 (.bin .neq (.t 7) (.k (.int .u8 92))))])
 (.cond (.t 8) (.seq (.seq (.ops [(I 9 (.mv (.t 3))), (I 10 (.bin .lss (.t 9) (.k (.int .u8 33)))), (I 11 (.mv (.t 10))),
  ⟨some 12, .mv (.t 3), some (11, false)⟩,
  ⟨some 13, .bin .gtr (.t 12) (.k (.int .u8 126)), some (11, false)⟩, (I 14 (.pick (.t 11) (.k (.bool true)) (.t 13))), (I 15 (.mv (.t 14))),
  ⟨some 16, .mv (.t 3), some (15, false)⟩,
  ⟨some 17, .call 49 [(.k (.str [92, 124, 42, 43, 63, 40, 41, 91, 93, 46, 94, 45])), (.t 16)], some (15, false)⟩,
  ⟨some 18, .bin .geq (.t 17) (.k (.int .i64 0)), some (15, false)⟩, (I 19 (.pick (.t 15) (.k (.bool true)) (.t 18)))])
 (.cond (.t 19) (.ops [(I 20 (.bld (.agg ([])) [])), (I 21 (.mkif 1 (.t 20))),
  ⟨none, .pan (.t 21), none⟩]) .skip))
 (.seq (.ops [(I 22 (.mv (.t 3))), (I 2 (.mv (.t 22)))])
 .ret)) .skip))
 (.seq (.ops [(I 23 (.mv (.t 0))), (I 24 (.call 44 [(.t 23)])), (I 3 (.mv (.t 24)))])
 (.seq (.seq (.ops [(I 25 (.mv (.t 3))), (I 26 (.bin .eql (.t 25) (.k (.int .u8 120))))])
 (.cond (.t 26) (.seq (.ops [(I 27 (.mv (.t 0))), (I 28 (.call 50 [(.t 27)])), (I 4 (.mv (.t 28)))])
 (.seq (.ops [(I 29 (.mv (.t 4))), (I 30 (.bin .shl (.t 29) (.k (.int .u64 4)))), (I 31 (.mv (.t 0))), (I 32 (.call 50 [(.t 31)])), (I 33 (.bin .or (.t 30) (.t 32))), (I 2 (.mv (.t 33)))])
 .ret)) .skip))
 (.seq (.seq (.ops [(I 34 (.mv (.t 3))), (I 35 (.call 49 [(.k (.str [92, 124, 42, 43, 63, 40, 41, 91, 93, 46, 94, 45])), (.t 34)])), (I 36 (.bin .lss (.t 35) (.k (.int .i64 0))))])
 (.cond (.t 36) (.ops [(I 37 (.bld (.agg ([])) [])), (I 38 (.mkif 1 (.t 37))),
  ⟨none, .pan (.t 38), none⟩]) .skip))
 (.seq (.ops [(I 39 (.mv (.t 3))), (I 2 (.mv (.t 39)))])
 .ret))))))), [.tmp 2], false⟩
/-- eyot/class.run -/
def a47 : AFn := ⟨2, (.seq (.ops [(I 4 (.alv ([.int .u64 0, .int .u64 0, .int .u64 0, .int .u64 0])))])
 (.seq (.ops [(I 5 (.mv (.k (.list true []))))])
 (.seq (.seq (.ops [(I 7 (.mv (.t 0))), (I 8 (.cvi .i64 (.t 7))), (I 6 (.mv (.t 8)))])
 (.block 0 (.loop [1, 4, 5, 6] (.seq (.seq (.ops [(I 9 (.mv (.t 6))), (I 10 (.mv (.t 1))), (I 11 (.cvi .i64 (.t 10))), (I 12 (.bin .leq (.t 9) (.t 11)))])
 (.cond (.t 12) .skip (.exit 0)))
 (.seq (.block 1 (.ops [(I 15 (.mv (.t 5))), (I 16 (.mv (.t 6))), (I 17 (.cvi .u8 (.t 16))), (I 18 (.mkl (.int .u8 0) 1 [(0, (.t 17))])), (I 19 (.app 1 (.t 15) (.t 18))), (I 5 (.mv (.t 19)))]))
 (.ops [(I 13 (.mv (.t 6))), (I 14 (.bin .add (.t 13) (.k (.int .i64 1)))), (I 6 (.mv (.t 14)))]))))))
 (.seq (.ops [(I 20 (.mv (.t 5))), (I 21 (.call 98 [(.t 20)])),
  ⟨none, .st 4 (.t 4) (.t 21), none⟩])
 .ret)))), [.cell 4 4 true], true⟩
/-- (*eyot/class.reader).class -/
def a48 : AFn := ⟨1, (.seq (.ops [(I 2 (.alv ([.int .u64 0, .int .u64 0, .int .u64 0, .int .u64 0])))])
 (.seq (.seq (.ops [(I 6 (.mv (.t 0))), (I 7 (.call 43 [(.t 6)]))])
 (.block 0 (.seq (.ops [(I 14 (.bin .eql (.t 7) (.k (.int .u8 46)))), (I 13 (.mv (.t 14)))])
 (.cond (.t 13) (.seq (.ops [(I 15 (.mv (.t 0))), (I 16 (.call 44 [(.t 15)]))])
 (.seq (.ops [(I 17 (.bld (.agg ([.int .u64 0, .int .u64 0, .int .u64 0, .int .u64 0])) [])), (I 18 (.call 45 [(.t 17)])),
  ⟨none, .st 4 (.t 2) (.t 18), none⟩])
 .ret)) (.seq (.ops [(I 20 (.bin .eql (.t 7) (.k (.int .u8 91)))), (I 19 (.mv (.t 20)))])
 (.cond (.t 19) .skip (.seq (.ops [(I 8 (.mv (.t 0))), (I 9 (.call 46 [(.t 8)])), (I 3 (.mv (.t 9)))])
 (.seq (.ops [(I 10 (.mv (.t 3))), (I 11 (.mv (.t 3))), (I 12 (.call 47 [(.t 10), (.t 11)])),
  ⟨none, .st 4 (.t 2) (.t 12), none⟩])
 .ret))))))))
 (.seq (.ops [(I 21 (.mv (.t 0))), (I 22 (.call 44 [(.t 21)]))])
 (.seq (.ops [(I 23 (.mv (.t 0))), (I 24 (.call 43 [(.t 23)])), (I 25 (.bin .eql (.t 24) (.k (.int .u8 94)))), (I 4 (.mv (.t 25)))])
 (.seq (.seq (.ops [(I 26 (.mv (.t 4)))])
 (.cond (.t 26) (.ops [(I 27 (.mv (.t 0))), (I 28 (.call 44 [(.t 27)]))]) .skip))
 (.seq (.ops [(I 29 (.mv (.t 0))), (I 30 (.call 203 [(.t 29)])), (I 5 (.alv ([.int .u64 0, .int .u64 0, .int .u64 0, .int .u64 0]))),
  ⟨none, .st 4 (.t 5) (.t 30), none⟩])
 (.seq (.block 1 (.loop [0, 2, 4, 5] (.seq (.seq (.ops [(I 31 (.mv (.t 0))), (I 32 (.call 43 [(.t 31)])), (I 33 (.bin .neq (.t 32) (.k (.int .u8 93))))])
 (.cond (.t 33) .skip (.exit 1)))
 (.block 2 (.dops [(I 34 (.ldl 4 true 5)), (I 35 (.mv (.t 0))), (I 36 (.call 203 [(.t 35)])), (I 37 (.call 204 [(.t 34), (.t 36)])),
  ⟨none, .st 4 (.t 5) (.t 37), none⟩])))))
 (.seq (.ops [(I 38 (.mv (.t 0))), (I 39 (.call 44 [(.t 38)]))])
 (.seq (.seq (.ops [(I 40 (.mv (.t 4)))])
 (.cond (.t 40) (.ops [(I 41 (.ldl 4 true 5)), (I 42 (.call 45 [(.t 41)])),
  ⟨none, .st 4 (.t 5) (.t 42), none⟩]) .skip))
 (.seq (.ops [(I 43 (.ldl 4 true 5)),
  ⟨none, .st 4 (.t 2) (.t 43), none⟩])
 .ret)))))))))), [.cell 2 4 true], false⟩
/-- strings.IndexByte -/
def a49 : AFn := ⟨2, (.seq (.ops [(I 4 (.mv (.k (.int .i64 0))))])
 (.seq (.ops [(I 5 (.mv (.t 0))), (I 6 (.mv (.t 1))), (I 7 (.call 164 [(.t 5), (.t 6)])), (I 4 (.mv (.t 7)))])
 .ret)), [.tmp 4], true⟩
/-- (*eyot/class.reader).digit -/
def a50 : AFn := ⟨1, (.seq (.ops [(I 2 (.mv (.k (.int .u8 0))))])
 (.seq (.ops [(I 4 (.mv (.t 0))), (I 5 (.call 44 [(.t 4)])), (I 6 (.call 49 [(.k (.str [48, 49, 50, 51, 52, 53, 54, 55, 56, 57, 97, 98, 99, 100, 101, 102])), (.t 5)])), (I 3 (.mv (.t 6)))])
 (.seq (.seq (.ops [(I 7 (.mv (.t 3))), (I 8 (.bin .lss (.t 7) (.k (.int .i64 0))))])
 (.cond (.t 8) (.ops [(I 9 (.bld (.agg ([])) [])), (I 10 (.mkif 1 (.t 9))),
  ⟨none, .pan (.t 10), none⟩]) .skip))
 (.seq (.ops [(I 11 (.mv (.t 3))), (I 12 (.cvi .u8 (.t 11))), (I 2 (.mv (.t 12)))])
 .ret)))), [.tmp 2], false⟩
/-- eyot/gtext.must -/
def a51 : AFn := ⟨1, (.seq (.ops [(I 2 (.mv (.t 0))), (I 3 (.un .not (.t 2)))])
 (.cond (.t 3) (.ops [(I 4 (.bld (.agg ([])) [])), (I 5 (.mkif 2 (.t 4))),
  ⟨none, .pan (.t 5), none⟩]) .skip)), [], true⟩
/-- strconv.Atoi -/
def a52 : AFn := ⟨1, (.seq (.ops [(I 2 (.mv (.k (.int .i64 0)))), (I 3 (.mv (.k (.niliface))))])
 (.seq (.ops [(I 7 (.mv (.t 0))), (I 8 (.call 163 [(.t 7)])), (I 6 (.mv (.t 8))), (I 9 (.ext 0 (.t 6))), (I 10 (.ext 1 (.t 6))), (I 4 (.mv (.t 9))), (I 5 (.mv (.t 10)))])
 (.seq (.seq (.ops [(I 11 (.mv (.t 5))), (I 12 (.eq true .iface (.t 11) (.k (.niliface))))])
 (.cond (.t 12) (.seq (.ops [(I 13 (.mv (.t 4))), (I 14 (.mv (.t 0))), (I 15 (.mv (.t 5))), (I 16 (.call 233 [(.k (.str [65, 116, 111, 105])), (.t 14), (.k (.int .i64 0)), (.k (.int .i64 0)), (.t 15)])), (I 2 (.mv (.t 13))), (I 3 (.mv (.t 16)))])
 .ret) .skip))
 (.seq (.ops [(I 17 (.mv (.t 4))), (I 2 (.mv (.t 17))), (I 3 (.mv (.k (.niliface))))])
 .ret)))), [.tmp 2, .tmp 3], false⟩
/-- (*eyot/gtext.reader).most -/
def a53 : AFn := ⟨2, (.seq (.ops [(I 6 (.mv (.t 1))), (I 7 (.len (.t 6))), (I 8 (.bin .eql (.t 7) (.k (.int .i64 2)))), (I 9 (.mv (.t 8))),
  ⟨some 10, .mv (.t 1), some (9, true)⟩,
  ⟨some 11, .ix 1 (.t 10) (.k (.int .i64 1)), some (9, true)⟩,
  ⟨some 12, .ld 1 false (.t 11), some (9, true)⟩,
  ⟨some 13, .lns (.t 12), some (9, true)⟩,
  ⟨some 14, .bin .geq (.t 13) (.k (.int .i64 1)), some (9, true)⟩, (I 15 (.pick (.t 9) (.t 14) (.k (.bool false)))), (I 16 (.mv (.t 15))),
  ⟨some 17, .mv (.t 1), some (16, true)⟩,
  ⟨some 18, .ix 1 (.t 17) (.k (.int .i64 1)), some (16, true)⟩,
  ⟨some 19, .ld 1 false (.t 18), some (16, true)⟩,
  ⟨some 20, .lns (.t 19), some (16, true)⟩,
  ⟨some 21, .bin .leq (.t 20) (.k (.int .i64 9)), some (16, true)⟩, (I 22 (.pick (.t 16) (.t 21) (.k (.bool false)))), (I 23 (.call 51 [(.t 22)]))])
 (.seq (.seq (.ops [(I 24 (.mv (.t 1))), (I 25 (.ix 1 (.t 24) (.k (.int .i64 1)))), (I 26 (.ld 1 false (.t 25))), (I 27 (.cvs (.t 26))), (I 28 (.len (.t 27))), (I 29 (.mv (.k (.int .i64 0))))])
 (.block 0 (.loop [0, 1, 27, 28, 29, 36, 37] (.seq (.ops [(I 30 (.bin .lss (.t 29) (.t 28)))])
 (.seq (.cond (.t 30) .skip (.exit 0))
 (.seq (.block 1 (.seq (.ops [(I 31 (.ix 1 (.t 27) (.t 29))), (I 32 (.ld 1 false (.t 31))), (I 5 (.mv (.t 32)))])
 (.ops [(I 33 (.mv (.t 5))), (I 34 (.bin .geq (.t 33) (.k (.int .u8 48)))), (I 35 (.mv (.t 34))),
  ⟨some 36, .mv (.t 5), some (35, true)⟩,
  ⟨some 37, .bin .leq (.t 36) (.k (.int .u8 57)), some (35, true)⟩, (I 38 (.pick (.t 35) (.t 37) (.k (.bool false)))), (I 39 (.call 51 [(.t 38)]))])))
 (.ops [(I 40 (.bin .add (.t 29) (.k (.int .i64 1)))), (I 29 (.mv (.t 40)))])))))))
 (.ops [(I 42 (.mv (.t 0))), (I 43 (.mv (.t 1))), (I 44 (.ix 1 (.t 43) (.k (.int .i64 1)))), (I 45 (.ld 1 false (.t 44))), (I 46 (.call 52 [(.t 45)])), (I 41 (.mv (.t 46))), (I 47 (.ext 0 (.t 41))), (I 48 (.ext 1 (.t 41))), (I 49 (.nilc (.t 42))), (I 50 (.fa 0 7 true (.t 49))), (I 51 (.fa 6 1 false (.t 50))),
  ⟨none, .st 1 (.t 51) (.t 47), none⟩]))), [], false⟩
/-- eyot/gtext.left -/
def a54 : AFn := ⟨1, (.seq (.ops [(I 2 (.mv (.k (.str [])))), (I 3 (.mv (.k (.bool false))))])
 (.seq (.seq (.ops [(I 4 (.mv (.t 0))), (I 5 (.len (.t 4))), (I 6 (.bin .lss (.t 5) (.k (.int .i64 3)))), (I 7 (.mv (.t 6))),
  ⟨some 8, .mv (.t 0), some (7, false)⟩,
  ⟨some 9, .ix 1 (.t 8) (.k (.int .i64 0)), some (7, false)⟩,
  ⟨some 10, .ld 1 false (.t 9), some (7, false)⟩,
  ⟨some 11, .bin .neq (.t 10) (.k (.str [114, 117, 108, 101])), some (7, false)⟩, (I 12 (.pick (.t 7) (.k (.bool true)) (.t 11))), (I 13 (.mv (.t 12))),
  ⟨some 14, .mv (.t 0), some (13, false)⟩,
  ⟨some 15, .ix 1 (.t 14) (.k (.int .i64 2)), some (13, false)⟩,
  ⟨some 16, .ld 1 false (.t 15), some (13, false)⟩,
  ⟨some 17, .bin .neq (.t 16) (.k (.str [61])), some (13, false)⟩, (I 18 (.pick (.t 13) (.k (.bool true)) (.t 17))), (I 19 (.mv (.t 18))),
  ⟨some 20, .mv (.t 0), some (19, false)⟩,
  ⟨some 21, .ix 1 (.t 20) (.k (.int .i64 1)), some (19, false)⟩,
  ⟨some 22, .ld 1 false (.t 21), some (19, false)⟩,
  ⟨some 23, .call 125 [(.t 22)], some (19, false)⟩,
  ⟨some 24, .un .not (.t 23), some (19, false)⟩, (I 25 (.pick (.t 19) (.k (.bool true)) (.t 24)))])
 (.cond (.t 25) (.seq (.ops [(I 2 (.mv (.k (.str [])))), (I 3 (.mv (.k (.bool false))))])
 .ret) .skip))
 (.seq (.ops [(I 26 (.mv (.t 0))), (I 27 (.ix 1 (.t 26) (.k (.int .i64 1)))), (I 28 (.ld 1 false (.t 27))), (I 2 (.mv (.t 28))), (I 3 (.mv (.k (.bool true))))])
 .ret))), [.tmp 2, .tmp 3], true⟩
/-- slices.Index[[]string,string] -/
def a55 : AFn := ⟨2, (.seq (.ops [(I 4 (.mv (.k (.int .i64 0))))])
 (.seq (.seq (.ops [(I 6 (.mv (.t 0))), (I 7 (.len (.t 6))), (I 8 (.mv (.k (.int .i64 0))))])
 (.block 0 (.loop [0, 1, 7, 8] (.seq (.ops [(I 9 (.bin .lss (.t 8) (.t 7)))])
 (.seq (.cond (.t 9) .skip (.exit 0))
 (.seq (.block 1 (.seq (.ops [(I 10 (.mv (.t 8))), (I 5 (.mv (.t 10)))])
 (.seq (.ops [(I 11 (.mv (.t 1))), (I 12 (.mv (.t 0))), (I 13 (.mv (.t 5))), (I 14 (.ix 1 (.t 12) (.t 13))), (I 15 (.ld 1 false (.t 14))), (I 16 (.bin .eql (.t 11) (.t 15)))])
 (.cond (.t 16) (.seq (.ops [(I 17 (.mv (.t 5))), (I 4 (.mv (.t 17)))])
 .ret) .skip))))
 (.ops [(I 18 (.bin .add (.t 8) (.k (.int .i64 1)))), (I 8 (.mv (.t 18)))])))))))
 (.seq (.ops [(I 4 (.mv (.k (.int .i64 (-1)))))])
 .ret))), [.tmp 4], true⟩
/-- eyot/gram.Scope -/
def a56 : AFn := ⟨2, (.seq (.ops [(I 2 (.bim 7 (.t 0))), (I 3 (.bob 1 (.t 1))), (I 4 (.mv (.k (.int .i64 0))))])
 (.seq (.ops [(I 5 (.fa 2 1 false (.t 2))), (I 6 (.ldi 1 false (.t 5))), (I 7 (.mkfn 126 [(.t 3)])), (I 8 (.call 127 [(.t 6), (.t 7)])), (I 4 (.mv (.t 8)))])
 .ret)), [.tmp 4], true⟩
/-- (*eyot/gtext.reader).symbol -/
def a57 : AFn := ⟨2, (.seq (.ops [(I 4 (.mv (.k (.int .i64 0))))])
 (.seq (.seq (.ops [(I 7 (.mv (.t 0))), (I 8 (.nilc (.t 7))), (I 9 (.fa 0 7 true (.t 8))), (I 10 (.ld 7 true (.t 9))), (I 11 (.mv (.t 1))), (I 12 (.call 62 [(.t 10), (.t 11)])), (I 5 (.mv (.t 12)))])
 (.seq (.ops [(I 13 (.mv (.t 5))), (I 14 (.bin .geq (.t 13) (.k (.int .i64 0))))])
 (.cond (.t 14) (.seq (.ops [(I 15 (.mv (.t 5))), (I 16 (.bin .sub (.k (.int .i64 (-1))) (.t 15))), (I 4 (.mv (.t 16)))])
 .ret) .skip)))
 (.seq (.ops [(I 17 (.mv (.t 0))), (I 18 (.nilc (.t 17))), (I 19 (.fa 7 1 false (.t 18))), (I 20 (.ld 1 false (.t 19))), (I 21 (.mv (.t 1))), (I 22 (.call 55 [(.t 20), (.t 21)])), (I 6 (.mv (.t 22)))])
 (.seq (.ops [(I 23 (.mv (.t 6))), (I 24 (.bin .geq (.t 23) (.k (.int .i64 0)))), (I 25 (.call 51 [(.t 24)]))])
 (.seq (.ops [(I 26 (.mv (.t 6))), (I 4 (.mv (.t 26)))])
 .ret))))), [.tmp 4], true⟩
/-- (*eyot/gtext.reader).rule -/
def a58 : AFn := ⟨2, (.seq (.ops [(I 12 (.mv (.t 1))), (I 13 (.call 54 [(.t 12)])), (I 11 (.mv (.t 13))), (I 14 (.ext 0 (.t 11))), (I 15 (.ext 1 (.t 11))), (I 4 (.mv (.t 14))), (I 5 (.mv (.t 15)))])
 (.seq (.ops [(I 16 (.mv (.t 5))), (I 17 (.call 51 [(.t 16)]))])
 (.seq (.ops [(I 18 (.mv (.t 0))), (I 19 (.nilc (.t 18))), (I 20 (.fa 7 1 false (.t 19))), (I 21 (.ld 1 false (.t 20))), (I 22 (.mv (.t 4))), (I 23 (.call 55 [(.t 21), (.t 22)])), (I 24 (.bld (.agg ([.int .i64 0, .list true [], .int .i64 0])) [((0, 1), (.t 23)), ((2, 1), (.k (.int .i64 (-1))))])), (I 6 (.alv ([.int .i64 0, .list true [], .int .i64 0]))),
  ⟨none, .st 3 (.t 6) (.t 24), none⟩])
 (.seq (.ops [(I 25 (.mv (.t 1))), (I 26 (.sl 1 (.t 25) (some (.k (.int .i64 3))) none none)), (I 7 (.mv (.t 26)))])
 (.seq (.seq (.ops [(I 27 (.mv (.t 7))), (I 28 (.len (.t 27))), (I 29 (.bin .sub (.t 28) (.k (.int .i64 2)))), (I 8 (.mv (.t 29)))])
 (.seq (.ops [(I 30 (.mv (.t 8))), (I 31 (.bin .geq (.t 30) (.k (.int .i64 0)))), (I 32 (.mv (.t 31))),
  ⟨some 33, .mv (.t 7), some (32, true)⟩,
  ⟨some 34, .mv (.t 8), some (32, true)⟩,
  ⟨some 35, .ix 1 (.t 33) (.t 34), some (32, true)⟩,
  ⟨some 36, .ld 1 false (.t 35), some (32, true)⟩,
  ⟨some 37, .bin .eql (.t 36) (.k (.str [58])), some (32, true)⟩, (I 38 (.pick (.t 32) (.t 37) (.k (.bool false))))])
 (.cond (.t 38) (.seq (.dops [(I 39 (.mv (.t 0))), (I 40 (.nilc (.t 39))), (I 41 (.fa 0 7 true (.t 40))), (I 42 (.ldo 7 true (.t 41))), (I 43 (.mv (.t 7))), (I 44 (.mv (.t 8))), (I 45 (.bin .add (.t 44) (.k (.int .i64 1)))), (I 46 (.ix 1 (.t 43) (.t 45))), (I 47 (.ld 1 false (.t 46))), (I 48 (.call 56 [(.t 42), (.t 47)])), (I 49 (.fa 2 1 false (.t 6))),
  ⟨none, .st 1 (.t 49) (.t 48), none⟩])
 (.seq (.ops [(I 50 (.fa 2 1 false (.t 6))), (I 51 (.ldp 1 false (.t 50))), (I 52 (.bin .geq (.t 51) (.k (.int .i64 0)))), (I 53 (.call 51 [(.t 52)]))])
 (.ops [(I 54 (.mv (.t 7))), (I 55 (.mv (.t 8))), (I 56 (.sl 1 (.t 54) none (some (.t 55)) none)), (I 7 (.mv (.t 56)))]))) .skip)))
 (.seq (.seq (.ops [(I 57 (.mv (.t 7))), (I 58 (.len (.t 57))), (I 59 (.mv (.k (.int .i64 0))))])
 (.block 0 (.loop [0, 6, 57, 58, 59] (.seq (.ops [(I 60 (.bin .lss (.t 59) (.t 58)))])
 (.seq (.cond (.t 60) .skip (.exit 0))
 (.seq (.block 1 (.seq (.ops [(I 61 (.ix 1 (.t 57) (.t 59))), (I 62 (.ld 1 false (.t 61))), (I 10 (.mv (.t 62)))])
 (.dops [(I 63 (.fa 1 1 false (.t 6))), (I 64 (.ldp 1 false (.t 63))), (I 65 (.mv (.t 0))), (I 66 (.mv (.t 10))), (I 67 (.call 57 [(.t 65), (.t 66)])), (I 68 (.mkl (.int .i64 0) 1 [(0, (.t 67))])), (I 69 (.app 1 (.t 64) (.t 68))), (I 70 (.fa 1 1 false (.t 6))),
  ⟨none, .st 1 (.t 70) (.t 69), none⟩])))
 (.ops [(I 71 (.bin .add (.t 59) (.k (.int .i64 1)))), (I 59 (.mv (.t 71)))])))))))
 (.dops [(I 72 (.mv (.t 0))), (I 73 (.mv (.t 0))), (I 74 (.nilc (.t 73))), (I 75 (.fa 0 7 true (.t 74))), (I 76 (.fa 3 1 false (.t 75))), (I 77 (.ldo 1 false (.t 76))), (I 78 (.ldl 3 true 6)), (I 79 (.mkl (.agg ([.int .i64 0, .list true [], .int .i64 0])) 1 [(0, (.t 78))])), (I 80 (.app 3 (.t 77) (.t 79))), (I 81 (.nilc (.t 72))), (I 82 (.fa 0 7 true (.t 81))), (I 83 (.fa 3 1 false (.t 82))),
  ⟨none, .sto 1 (.t 83) (.t 80), none⟩]))))))), [], false⟩
/-- eyot/gtext.word -/
def a59 : AFn := ⟨1, (.seq (.ops [(I 2 (.mv (.k (.str [])))), (I 3 (.mv (.k (.str []))))])
 (.seq (.ops [(I 4 (.mv (.t 0))), (I 5 (.len (.t 4))), (I 6 (.bin .eql (.t 5) (.k (.int .i64 4)))), (I 7 (.mv (.t 6))),
  ⟨some 8, .mv (.t 0), some (7, true)⟩,
  ⟨some 9, .ix 1 (.t 8) (.k (.int .i64 2)), some (7, true)⟩,
  ⟨some 10, .ld 1 false (.t 9), some (7, true)⟩,
  ⟨some 11, .bin .eql (.t 10) (.k (.str [61])), some (7, true)⟩, (I 12 (.pick (.t 7) (.t 11) (.k (.bool false)))), (I 13 (.mv (.t 12))),
  ⟨some 14, .mv (.t 0), some (13, true)⟩,
  ⟨some 15, .ix 1 (.t 14) (.k (.int .i64 1)), some (13, true)⟩,
  ⟨some 16, .ld 1 false (.t 15), some (13, true)⟩,
  ⟨some 17, .call 125 [(.t 16)], some (13, true)⟩, (I 18 (.pick (.t 13) (.t 17) (.k (.bool false)))), (I 19 (.call 51 [(.t 18)]))])
 (.seq (.dops [(I 20 (.mv (.t 0))), (I 21 (.ix 1 (.t 20) (.k (.int .i64 1)))), (I 22 (.ld 1 false (.t 21))), (I 23 (.mv (.t 0))), (I 24 (.ix 1 (.t 23) (.k (.int .i64 3)))), (I 25 (.ld 1 false (.t 24))), (I 2 (.mv (.t 22))), (I 3 (.mv (.t 25)))])
 .ret))), [.tmp 2, .tmp 3], true⟩
/-- eyot/weigh.Parse -/
def a60 : AFn := ⟨1, (.seq (.ops [(I 2 (.aob ([.flt .f64 0]))), (I 3 (.aob ([.int .i64 0])))])
 (.dfr 4 213 [(.t 2), (.t 3)] 5 (.seq (.ops [(I 5 (.mv (.t 0))), (I 6 (.call 160 [(.t 5)])),
  ⟨none, .st 1 (.t 2) (.t 6), none⟩,
  ⟨none, .st 1 (.t 3) (.k (.int .i64 0)), none⟩])
 .ret)
 (.seq (.ops [(I 6 (.tas 3 (.agg ([])) true (.t 5))), (I 4 (.mv (.t 6))), (I 7 (.ext 0 (.t 4))), (I 8 (.ext 1 (.t 4))), (I 2 (.alv ([]))),
  ⟨none, .st0 (.t 2) (.t 7), none⟩, (I 3 (.mv (.t 8)))])
 (.seq (.ops [(I 9 (.mv (.t 3)))])
 (.cond (.t 9) (.ops [⟨none, .st 1 (.t 0) (.k (.flt .f64 0)), none⟩,
  ⟨none, .st 1 (.t 1) (.k (.int .i64 2)), none⟩]) .skip))))), [.cell 2 1 false, .cell 3 1 false], true⟩
/-- (*eyot/gtext.reader).scope -/
def a61 : AFn := ⟨2, (.seq (.ops [(I 9 (.mv (.t 1))), (I 10 (.call 59 [(.t 9)])), (I 8 (.mv (.t 10))), (I 11 (.ext 0 (.t 8))), (I 12 (.ext 1 (.t 8))), (I 4 (.mv (.t 11))), (I 5 (.mv (.t 12)))])
 (.seq (.ops [(I 14 (.mv (.t 5))), (I 15 (.call 60 [(.t 14)])), (I 13 (.mv (.t 15))), (I 16 (.ext 0 (.t 13))), (I 17 (.ext 1 (.t 13))), (I 6 (.mv (.t 16))), (I 7 (.mv (.t 17)))])
 (.seq (.ops [(I 18 (.mv (.t 7))), (I 19 (.bin .eql (.t 18) (.k (.int .i64 0)))), (I 20 (.call 51 [(.t 19)]))])
 (.ops [(I 21 (.mv (.t 0))), (I 22 (.mv (.t 0))), (I 23 (.nilc (.t 22))), (I 24 (.fa 0 7 true (.t 23))), (I 25 (.fa 2 1 false (.t 24))), (I 26 (.ld 1 false (.t 25))), (I 27 (.mv (.t 4))), (I 28 (.mv (.t 5))), (I 29 (.bld (.agg ([.str [], .str []])) [((0, 1), (.t 27)), ((1, 1), (.t 28))])), (I 30 (.mkl (.agg ([.str [], .str []])) 1 [(0, (.t 29))])), (I 31 (.app 2 (.t 26) (.t 30))), (I 32 (.nilc (.t 21))), (I 33 (.fa 0 7 true (.t 32))), (I 34 (.fa 2 1 false (.t 33))),
  ⟨none, .st 1 (.t 34) (.t 31), none⟩])))), [], false⟩
/-- eyot/gram.Token -/
def a62 : AFn := ⟨2, (.seq (.ops [(I 2 (.bim 7 (.t 0))), (I 3 (.bob 1 (.t 1))), (I 4 (.mv (.k (.int .i64 0))))])
 (.seq (.ops [(I 5 (.fa 0 1 false (.t 2))), (I 6 (.ldi 1 false (.t 5))), (I 7 (.mkfn 128 [(.t 3)])), (I 8 (.call 129 [(.t 6), (.t 7)])), (I 4 (.mv (.t 8)))])
 .ret)), [.tmp 4], true⟩
/-- eyot/gtext.classes -/
def a63 : AFn := ⟨1, (.seq (.ops [(I 2 (.mv (.k (.list true []))))])
 (.seq (.ops [(I 3 (.mv (.k (.list true []))))])
 (.seq (.seq (.ops [(I 9 (.mv (.t 0))), (I 10 (.len (.t 9))), (I 11 (.mv (.k (.int .i64 0))))])
 (.block 0 (.loop [3, 9, 10, 11, 24, 25, 26, 27] (.seq (.ops [(I 12 (.bin .lss (.t 11) (.t 10)))])
 (.seq (.cond (.t 12) .skip (.exit 0))
 (.seq (.block 1 (.seq (.ops [(I 13 (.ix 1 (.t 9) (.t 11))), (I 14 (.ld 1 false (.t 13))), (I 5 (.mv (.t 14)))])
 (.seq (.ops [(I 16 (.mv (.t 5))), (I 17 (.call 75 [(.t 16)])), (I 15 (.mv (.t 17))), (I 18 (.ext 0 (.t 15))), (I 19 (.ext 1 (.t 15))), (I 20 (.ext 2 (.t 15))), (I 6 (.alv ([.int .u64 0, .int .u64 0, .int .u64 0, .int .u64 0]))),
  ⟨none, .st 4 (.t 6) (.t 18), none⟩, (I 7 (.mv (.t 19))), (I 8 (.mv (.t 20)))])
 (.seq (.ops [(I 21 (.mv (.t 8))), (I 22 (.bin .eql (.t 21) (.k (.int .i64 0)))), (I 23 (.mv (.t 22))),
  ⟨some 24, .mv (.t 7), some (23, true)⟩,
  ⟨some 25, .mv (.t 5), some (23, true)⟩,
  ⟨some 26, .lns (.t 25), some (23, true)⟩,
  ⟨some 27, .bin .eql (.t 24) (.t 26), some (23, true)⟩, (I 28 (.pick (.t 23) (.t 27) (.k (.bool false)))), (I 29 (.call 51 [(.t 28)]))])
 (.ops [(I 30 (.mv (.t 3))), (I 31 (.ldl 4 true 6)), (I 32 (.mkl (.agg ([.int .u64 0, .int .u64 0, .int .u64 0, .int .u64 0])) 1 [(0, (.t 31))])), (I 33 (.app 4 (.t 30) (.t 32))), (I 3 (.mv (.t 33)))])))))
 (.ops [(I 34 (.bin .add (.t 11) (.k (.int .i64 1)))), (I 11 (.mv (.t 34)))])))))))
 (.seq (.ops [(I 35 (.mv (.t 3))), (I 2 (.mv (.t 35)))])
 (.seq (.ops [⟨none, .frz (.sl .no) 2, none⟩]) .ret))))), [.tmp 2], true⟩
/-- (*eyot/gtext.reader).sync -/
def a64 : AFn := ⟨2, (.seq (.ops [(I 5 (.mv (.t 1))), (I 6 (.call 55 [(.t 5), (.k (.str [124]))])), (I 4 (.mv (.t 6)))])
 (.seq (.ops [(I 7 (.mv (.t 4))), (I 8 (.bin .gtr (.t 7) (.k (.int .i64 0)))), (I 9 (.call 51 [(.t 8)]))])
 (.dops [(I 10 (.mv (.t 0))), (I 11 (.mv (.t 0))), (I 12 (.mv (.t 1))), (I 13 (.mv (.t 4))), (I 14 (.sl 1 (.t 12) (some (.k (.int .i64 1))) (some (.t 13)) none)), (I 15 (.call 63 [(.t 14)])), (I 16 (.mv (.t 1))), (I 17 (.mv (.t 4))), (I 18 (.bin .add (.t 17) (.k (.int .i64 1)))), (I 19 (.sl 1 (.t 16) (some (.t 18)) none none)), (I 20 (.call 63 [(.t 19)])), (I 21 (.nilc (.t 10))), (I 22 (.fa 0 7 true (.t 21))), (I 23 (.fa 4 1 false (.t 22))),
  ⟨none, .sto 1 (.t 23) (.t 15), none⟩, (I 24 (.nilc (.t 11))), (I 25 (.fa 0 7 true (.t 24))), (I 26 (.fa 5 1 false (.t 25))),
  ⟨none, .sto 1 (.t 26) (.t 20), none⟩]))), [], false⟩
/-- eyot/regex.Parse -/
def a65 : AFn := ⟨1, (.seq (.ops [(I 2 (.aob ([.int .i64 0, .int .u64 0, .int .u64 0, .int .u64 0, .int .u64 0, .list true []]))), (I 3 (.aob ([.int .i64 0])))])
 (.dfr 6 211 [(.t 2), (.t 3)] 5 (.seq (.ops [(I 7 (.mv (.t 0))), (I 8 (.bld (.agg ([.str [], .int .i64 0])) [((0, 1), (.t 7))])), (I 9 (.bob 2 (.t 8))), (I 4 (.mv (.t 9)))])
 (.seq (.ops [(I 10 (.mv (.t 4))), (I 11 (.call 74 [(.t 10)])),
  ⟨none, .st 6 (.t 2) (.t 11), none⟩])
 (.seq (.seq (.ops [(I 12 (.mv (.t 4))), (I 13 (.nilc (.t 12))), (I 14 (.fa 0 1 false (.t 13))), (I 15 (.ld 1 false (.t 14))), (I 16 (.bin .neq (.t 15) (.k (.str []))))])
 (.cond (.t 16) (.ops [(I 17 (.bld (.agg ([.int .i64 0])) [((0, 1), (.k (.int .i64 2)))])), (I 18 (.mkif 4 (.t 17))),
  ⟨none, .pan (.t 18), none⟩]) .skip))
 (.seq (.seq (.ops [(I 19 (.ldo 6 true (.t 2))), (I 20 (.call 24 [(.t 19)])), (I 5 (.mv (.t 20)))])
 (.seq (.ops [(I 21 (.mv (.t 5))), (I 22 (.bin .neq (.t 21) (.k (.int .i64 0))))])
 (.cond (.t 22) (.ops [(I 23 (.mv (.t 5))), (I 24 (.bld (.agg ([.int .i64 0])) [((0, 1), (.t 23))])), (I 25 (.mkif 4 (.t 24))),
  ⟨none, .pan (.t 25), none⟩]) .skip)))
 (.seq (.ops [(I 26 (.ldo 6 true (.t 2))),
  ⟨none, .st 6 (.t 2) (.t 26), none⟩,
  ⟨none, .st 1 (.t 3) (.k (.int .i64 0)), none⟩])
 .ret)))))
 (.seq (.ops [(I 6 (.tas 4 (.agg ([.int .i64 0])) true (.t 5))), (I 4 (.mv (.t 6))), (I 7 (.ext 0 (.t 4))), (I 8 (.ext 1 (.t 4))), (I 2 (.alv ([.int .i64 0]))),
  ⟨none, .st 1 (.t 2) (.t 7), none⟩, (I 3 (.mv (.t 8)))])
 (.seq (.ops [(I 9 (.mv (.t 3)))])
 (.cond (.t 9) (.dops [(I 10 (.bld (.agg ([.int .i64 0, .int .u64 0, .int .u64 0, .int .u64 0, .int .u64 0, .list true []])) [])), (I 11 (.fa 0 1 false (.t 2))), (I 12 (.ldp 1 false (.t 11))),
  ⟨none, .sto 6 (.t 0) (.t 10), none⟩,
  ⟨none, .sto 1 (.t 1) (.t 12), none⟩]) .skip))))), [.cell 2 6 true, .cell 3 1 false], false⟩
/-- (*eyot/gtext.reader).token -/
def a66 : AFn := ⟨2, (.seq (.ops [(I 9 (.mv (.t 1))), (I 10 (.call 59 [(.t 9)])), (I 8 (.mv (.t 10))), (I 11 (.ext 0 (.t 8))), (I 12 (.ext 1 (.t 8))), (I 4 (.mv (.t 11))), (I 5 (.mv (.t 12)))])
 (.seq (.ops [(I 14 (.mv (.t 5))), (I 15 (.call 65 [(.t 14)])), (I 13 (.mv (.t 15))), (I 16 (.ext 0 (.t 13))), (I 17 (.ext 1 (.t 13))), (I 6 (.alv ([.int .i64 0, .int .u64 0, .int .u64 0, .int .u64 0, .int .u64 0, .list true []]))),
  ⟨none, .st 6 (.t 6) (.t 16), none⟩, (I 7 (.mv (.t 17)))])
 (.seq (.ops [(I 18 (.mv (.t 7))), (I 19 (.bin .eql (.t 18) (.k (.int .i64 0)))), (I 20 (.call 51 [(.t 19)]))])
 (.dops [(I 21 (.mv (.t 0))), (I 22 (.mv (.t 0))), (I 23 (.nilc (.t 22))), (I 24 (.fa 0 7 true (.t 23))), (I 25 (.fa 0 1 false (.t 24))), (I 26 (.ldo 1 false (.t 25))), (I 27 (.mv (.t 4))), (I 28 (.ldl 6 true 6)), (I 29 (.mv (.t 1))), (I 30 (.ix 1 (.t 29) (.k (.int .i64 0)))), (I 31 (.ld 1 false (.t 30))), (I 32 (.bin .eql (.t 31) (.k (.str [116, 114, 105, 118, 105, 97])))), (I 33 (.bld (.agg ([.str [], .int .i64 0, .int .u64 0, .int .u64 0, .int .u64 0, .int .u64 0, .list true [], .bool false])) [((0, 1), (.t 27)), ((1, 6), (.t 28)), ((7, 1), (.t 32))])), (I 34 (.mkl (.agg ([.str [], .int .i64 0, .int .u64 0, .int .u64 0, .int .u64 0, .int .u64 0, .list true [], .bool false])) 1 [(0, (.t 33))])), (I 35 (.app 8 (.t 26) (.t 34))), (I 36 (.nilc (.t 21))), (I 37 (.fa 0 7 true (.t 36))), (I 38 (.fa 0 1 false (.t 37))),
  ⟨none, .sto 1 (.t 38) (.t 35), none⟩])))), [], false⟩
/-- (*eyot/item.closer).aheads -/
def a67 : AFn := ⟨3, (.seq (.ops [(I 6 (.mv (.k (.list true []))))])
 (.seq (.ops [(I 7 (.mv (.k (.list true []))))])
 (.seq (.seq (.ops [(I 10 (.mv (.t 1))), (I 11 (.len (.t 10))), (I 12 (.mv (.k (.int .i64 0))))])
 (.block 0 (.loop [0, 2, 7, 10, 11, 12] (.seq (.ops [(I 13 (.bin .lss (.t 12) (.t 11)))])
 (.seq (.cond (.t 13) .skip (.exit 0))
 (.seq (.block 1 (.seq (.ops [(I 14 (.ix 1 (.t 10) (.t 12))), (I 15 (.ld 1 false (.t 14))), (I 9 (.mv (.t 15)))])
 (.seq (.seq (.ops [(I 16 (.mv (.t 9))), (I 17 (.bin .lss (.t 16) (.k (.int .i64 0))))])
 (.cond (.t 17) (.seq (.ops [(I 18 (.mv (.t 7))), (I 19 (.mv (.t 9))), (I 20 (.bin .sub (.k (.int .i64 (-1))) (.t 19))), (I 21 (.mkl (.int .i64 0) 1 [(0, (.t 20))])), (I 22 (.app 1 (.t 18) (.t 21))), (I 6 (.mv (.t 22)))])
 (.seq (.ops [⟨none, .frz (.sl .no) 6, none⟩]) .ret)) .skip))
 (.seq (.ops [(I 23 (.mv (.t 7))), (I 24 (.mv (.t 0))), (I 25 (.nilc (.t 24))), (I 26 (.fa 8 1 false (.t 25))), (I 27 (.ld 1 false (.t 26))), (I 28 (.mv (.t 9))), (I 29 (.ix 1 (.t 27) (.t 28))), (I 30 (.ld 1 false (.t 29))), (I 31 (.app 1 (.t 23) (.t 30))), (I 7 (.mv (.t 31)))])
 (.seq (.ops [(I 32 (.mv (.t 0))), (I 33 (.nilc (.t 32))), (I 34 (.fa 7 1 false (.t 33))), (I 35 (.ld 1 false (.t 34))), (I 36 (.mv (.t 9))), (I 37 (.ix 1 (.t 35) (.t 36))), (I 38 (.ld 1 false (.t 37))), (I 39 (.un .not (.t 38)))])
 (.cond (.t 39) (.seq (.ops [(I 40 (.mv (.t 7))), (I 6 (.mv (.t 40)))])
 (.seq (.ops [⟨none, .frz (.sl .no) 6, none⟩]) .ret)) .skip))))))
 (.ops [(I 41 (.bin .add (.t 12) (.k (.int .i64 1)))), (I 12 (.mv (.t 41)))])))))))
 (.seq (.ops [(I 42 (.mv (.t 7))), (I 43 (.mv (.t 2))), (I 44 (.mkl (.int .i64 0) 1 [(0, (.t 43))])), (I 45 (.app 1 (.t 42) (.t 44))), (I 6 (.mv (.t 45)))])
 (.seq (.ops [⟨none, .frz (.sl .no) 6, none⟩]) .ret))))), [.tmp 6], true⟩
/-- eyot/item.right -/
def a68 : AFn := ⟨2, (.seq (.ops [(I 2 (.bim 7 (.t 0))), (I 4 (.mv (.k (.list true []))))])
 (.seq (.seq (.ops [(I 5 (.mv (.t 1))), (I 6 (.bin .eql (.t 5) (.k (.int .i64 (-1)))))])
 (.cond (.t 6) (.seq (.ops [(I 7 (.mkl (.int .i64 0) 1 [(0, (.k (.int .i64 0)))])), (I 4 (.mv (.t 7)))])
 (.seq (.ops [⟨none, .frz (.sl .no) 4, none⟩]) .ret)) .skip))
 (.seq (.ops [(I 8 (.fa 3 1 false (.t 2))), (I 9 (.ldi 1 false (.t 8))), (I 10 (.mv (.t 1))), (I 11 (.ix 3 (.t 9) (.t 10))), (I 12 (.fa 1 1 false (.t 11))), (I 13 (.ld 1 false (.t 12))), (I 4 (.mv (.t 13)))])
 (.seq (.ops [⟨none, .frz (.sl .no) 4, none⟩]) .ret)))), [.tmp 4], true⟩
/-- (*eyot/item.closer).close -/
def a69 : AFn := ⟨2, (.seq (.ops [(I 4 (.mv (.k (.list true []))))])
 (.seq (.ops [(I 18 .mkmp), (I 5 (.aob ([.nilmap]))),
  ⟨none, .st 1 (.t 5) (.t 18), none⟩])
 (.seq (.ops [(I 6 (.aob ([.list true []])))])
 (.seq (.ops [(I 19 (.mkfn 186 [(.t 5), (.t 6)])), (I 7 (.mv (.t 19)))])
 (.seq (.seq (.ops [(I 20 (.mv (.t 1))), (I 21 (.len (.t 20))), (I 22 (.mv (.k (.int .i64 0))))])
 (.block 0 (.loop [0, 6, 7, 20, 21, 22, 53, 54, 55, 56, 57, 58] (.seq (.ops [(I 23 (.bin .lss (.t 22) (.t 21)))])
 (.seq (.cond (.t 23) .skip (.exit 0))
 (.seq (.block 1 (.seq (.ops [(I 24 (.ix 3 (.t 20) (.t 22))), (I 25 (.ld 3 true (.t 24))), (I 9 (.alv ([.int .i64 0, .int .i64 0, .int .i64 0]))),
  ⟨none, .st 3 (.t 9) (.t 25), none⟩])
 (.ops [(I 26 (.mv (.t 7))), (I 27 (.ldl 3 true 9)), (I 28 (.callv (.t 26) [(.t 27)]))])))
 (.ops [(I 29 (.bin .add (.t 22) (.k (.int .i64 1)))), (I 22 (.mv (.t 29)))])))))))
 (.seq (.seq (.ops [(I 10 (.mv (.k (.int .i64 0))))])
 (.block 2 (.loop [0, 6, 7, 10, 53, 54, 55, 56, 57, 58] (.seq (.seq (.ops [(I 30 (.mv (.t 10))), (I 31 (.ldo 1 false (.t 6))), (I 32 (.len (.t 31))), (I 33 (.bin .lss (.t 30) (.t 32)))])
 (.cond (.t 33) .skip (.exit 2)))
 (.seq (.block 3 (.seq (.ops [(I 36 (.ldo 1 false (.t 6))), (I 37 (.mv (.t 10))), (I 38 (.ix 3 (.t 36) (.t 37))), (I 39 (.ld 3 true (.t 38))), (I 11 (.alv ([.int .i64 0, .int .i64 0, .int .i64 0]))),
  ⟨none, .st 3 (.t 11) (.t 39), none⟩])
 (.seq (.dops [(I 40 (.mv (.t 0))), (I 41 (.nilc (.t 40))), (I 42 (.fa 0 7 true (.t 41))), (I 43 (.ldo 7 true (.t 42))), (I 44 (.fa 0 1 false (.t 11))), (I 45 (.ldp 1 false (.t 44))), (I 46 (.call 68 [(.t 43), (.t 45)])), (I 12 (.mv (.t 46)))])
 (.seq (.seq (.ops [(I 47 (.fa 1 1 false (.t 11))), (I 48 (.ldp 1 false (.t 47))), (I 49 (.mv (.t 12))), (I 50 (.len (.t 49))), (I 51 (.bin .geq (.t 48) (.t 50))), (I 52 (.mv (.t 51))),
  ⟨some 53, .mv (.t 12), some (52, false)⟩,
  ⟨some 54, .fa 1 1 false (.t 11), some (52, false)⟩,
  ⟨some 55, .ldp 1 false (.t 54), some (52, false)⟩,
  ⟨some 56, .ix 1 (.t 53) (.t 55), some (52, false)⟩,
  ⟨some 57, .ld 1 false (.t 56), some (52, false)⟩,
  ⟨some 58, .bin .lss (.t 57) (.k (.int .i64 0)), some (52, false)⟩, (I 59 (.pick (.t 52) (.k (.bool true)) (.t 58)))])
 (.cond (.t 59) (.exit 3) .skip))
 (.seq (.dops [(I 60 (.mv (.t 0))), (I 61 (.mv (.t 12))), (I 62 (.fa 1 1 false (.t 11))), (I 63 (.ldp 1 false (.t 62))), (I 64 (.bin .add (.t 63) (.k (.int .i64 1)))), (I 65 (.sl 1 (.t 61) (some (.t 64)) none none)), (I 66 (.fa 2 1 false (.t 11))), (I 67 (.ldp 1 false (.t 66))), (I 68 (.call 67 [(.t 60), (.t 65), (.t 67)])), (I 13 (.mv (.t 68)))])
 (.seq (.ops [(I 69 (.mv (.t 0))), (I 70 (.nilc (.t 69))), (I 71 (.fa 0 7 true (.t 70))), (I 72 (.fa 3 1 false (.t 71))), (I 73 (.ld 1 false (.t 72))), (I 74 (.len (.t 73))), (I 75 (.mv (.k (.int .i64 0))))])
 (.block 4 (.loop [0, 6, 7, 10, 11, 12, 13, 53, 54, 55, 56, 57, 58, 73, 74, 75] (.seq (.ops [(I 76 (.bin .lss (.t 75) (.t 74)))])
 (.seq (.cond (.t 76) .skip (.exit 4))
 (.seq (.block 5 (.seq (.ops [(I 77 (.mv (.t 75))), (I 78 (.ix 3 (.t 73) (.t 75))), (I 79 (.ld 3 true (.t 78))), (I 15 (.alv ([.int .i64 0, .list true [], .int .i64 0]))), (I 14 (.mv (.t 77))),
  ⟨none, .st 3 (.t 15) (.t 79), none⟩])
 (.seq (.seq (.dops [(I 80 (.fa 0 1 false (.t 15))), (I 81 (.ldp 1 false (.t 80))), (I 82 (.mv (.t 12))), (I 83 (.fa 1 1 false (.t 11))), (I 84 (.ldp 1 false (.t 83))), (I 85 (.ix 1 (.t 82) (.t 84))), (I 86 (.ld 1 false (.t 85))), (I 87 (.bin .neq (.t 81) (.t 86)))])
 (.cond (.t 87) (.exit 5) .skip))
 (.seq (.ops [(I 88 (.mv (.t 13))), (I 89 (.len (.t 88))), (I 90 (.mv (.k (.int .i64 0))))])
 (.block 6 (.loop [0, 6, 7, 10, 11, 12, 13, 14, 53, 54, 55, 56, 57, 58, 73, 74, 75, 88, 89, 90] (.seq (.ops [(I 91 (.bin .lss (.t 90) (.t 89)))])
 (.seq (.cond (.t 91) .skip (.exit 6))
 (.seq (.block 7 (.seq (.ops [(I 92 (.ix 1 (.t 88) (.t 90))), (I 93 (.ld 1 false (.t 92))), (I 17 (.mv (.t 93)))])
 (.ops [(I 94 (.mv (.t 7))), (I 95 (.mv (.t 14))), (I 96 (.mv (.t 17))), (I 97 (.bld (.agg ([.int .i64 0, .int .i64 0, .int .i64 0])) [((0, 1), (.t 95)), ((2, 1), (.t 96))])), (I 98 (.callv (.t 94) [(.t 97)]))])))
 (.ops [(I 99 (.bin .add (.t 90) (.k (.int .i64 1)))), (I 90 (.mv (.t 99)))]))))))))))
 (.ops [(I 100 (.bin .add (.t 75) (.k (.int .i64 1)))), (I 75 (.mv (.t 100)))]))))))))))))
 (.ops [(I 34 (.mv (.t 10))), (I 35 (.bin .add (.t 34) (.k (.int .i64 1)))), (I 10 (.mv (.t 35)))]))))))
 (.seq (.ops [(I 101 (.ldo 1 false (.t 6))), (I 102 (.call 176 [(.t 101), (.k (.fn 156 []))]))])
 (.seq (.ops [(I 103 (.ldo 1 false (.t 6))), (I 4 (.mv (.t 103)))])
 (.seq (.ops [⟨none, .frz (.sl .no) 4, none⟩]) .ret))))))))), [.tmp 4], true⟩
/-- (*eyot/item.closer).step -/
def a70 : AFn := ⟨3, (.seq (.ops [(I 6 (.mv (.k (.list true []))))])
 (.seq (.ops [(I 7 (.mv (.k (.list true []))))])
 (.seq (.seq (.ops [(I 11 (.mv (.t 1))), (I 12 (.len (.t 11))), (I 13 (.mv (.k (.int .i64 0))))])
 (.block 0 (.loop [0, 2, 7, 11, 12, 13, 30, 31, 32, 33, 34, 35, 36] (.seq (.ops [(I 14 (.bin .lss (.t 13) (.t 12)))])
 (.seq (.cond (.t 14) .skip (.exit 0))
 (.seq (.block 1 (.seq (.ops [(I 15 (.ix 3 (.t 11) (.t 13))), (I 16 (.ld 3 true (.t 15))), (I 9 (.alv ([.int .i64 0, .int .i64 0, .int .i64 0]))),
  ⟨none, .st 3 (.t 9) (.t 16), none⟩])
 (.seq (.dops [(I 17 (.mv (.t 0))), (I 18 (.nilc (.t 17))), (I 19 (.fa 0 7 true (.t 18))), (I 20 (.ldo 7 true (.t 19))), (I 21 (.fa 0 1 false (.t 9))), (I 22 (.ldp 1 false (.t 21))), (I 23 (.call 68 [(.t 20), (.t 22)])), (I 10 (.mv (.t 23)))])
 (.seq (.ops [(I 24 (.fa 1 1 false (.t 9))), (I 25 (.ldp 1 false (.t 24))), (I 26 (.mv (.t 10))), (I 27 (.len (.t 26))), (I 28 (.bin .lss (.t 25) (.t 27))), (I 29 (.mv (.t 28))),
  ⟨some 30, .mv (.t 10), some (29, true)⟩,
  ⟨some 31, .fa 1 1 false (.t 9), some (29, true)⟩,
  ⟨some 32, .ldp 1 false (.t 31), some (29, true)⟩,
  ⟨some 33, .ix 1 (.t 30) (.t 32), some (29, true)⟩,
  ⟨some 34, .ld 1 false (.t 33), some (29, true)⟩,
  ⟨some 35, .mv (.t 2), some (29, true)⟩,
  ⟨some 36, .bin .eql (.t 34) (.t 35), some (29, true)⟩, (I 37 (.pick (.t 29) (.t 36) (.k (.bool false))))])
 (.cond (.t 37) (.seq (.ops [(I 38 (.fa 1 1 false (.t 9))), (I 39 (.ldp 1 false (.t 38))), (I 40 (.bin .add (.t 39) (.k (.int .i64 1)))), (I 41 (.fa 1 1 false (.t 9))),
  ⟨none, .st 1 (.t 41) (.t 40), none⟩])
 (.ops [(I 42 (.mv (.t 7))), (I 43 (.ldl 3 true 9)), (I 44 (.mkl (.agg ([.int .i64 0, .int .i64 0, .int .i64 0])) 1 [(0, (.t 43))])), (I 45 (.app 3 (.t 42) (.t 44))), (I 7 (.mv (.t 45)))])) .skip)))))
 (.ops [(I 46 (.bin .add (.t 13) (.k (.int .i64 1)))), (I 13 (.mv (.t 46)))])))))))
 (.seq (.ops [(I 47 (.mv (.t 0))), (I 48 (.mv (.t 7))), (I 49 (.call 69 [(.t 47), (.t 48)])), (I 6 (.mv (.t 49)))])
 (.seq (.ops [⟨none, .frz (.sl .no) 6, none⟩]) .ret))))), [.tmp 6], true⟩
/-- (*eyot/regex.reader).cat -/
def a71 : AFn := ⟨1, (.seq (.ops [(I 2 (.alv ([.int .i64 0, .int .u64 0, .int .u64 0, .int .u64 0, .int .u64 0, .list true []])))])
 (.seq (.ops [(I 4 (.mv (.t 0))), (I 5 (.call 77 [(.t 4)])), (I 6 (.mkm (.agg ([.int .i64 0, .int .u64 0, .int .u64 0, .int .u64 0, .int .u64 0, .list true []])) 1 [(0, (.t 5))])), (I 3 (.mv (.t 6)))])
 (.seq (.block 0 (.loop [0, 2, 3, 14, 15, 16, 19, 20, 21] (.seq (.seq (.ops [(I 7 (.mv (.t 0))), (I 8 (.nilc (.t 7))), (I 9 (.fa 0 1 false (.t 8))), (I 10 (.ld 1 false (.t 9))), (I 11 (.lns (.t 10))), (I 12 (.bin .gtr (.t 11) (.k (.int .i64 0)))), (I 13 (.mv (.t 12))),
  ⟨some 14, .mv (.t 0), some (13, true)⟩,
  ⟨some 15, .call 72 [(.t 14), (.k (.int .u8 124))], some (13, true)⟩,
  ⟨some 16, .un .not (.t 15), some (13, true)⟩, (I 17 (.pick (.t 13) (.t 16) (.k (.bool false)))), (I 18 (.mv (.t 17))),
  ⟨some 19, .mv (.t 0), some (18, true)⟩,
  ⟨some 20, .call 72 [(.t 19), (.k (.int .u8 41))], some (18, true)⟩,
  ⟨some 21, .un .not (.t 20), some (18, true)⟩, (I 22 (.pick (.t 18) (.t 21) (.k (.bool false))))])
 (.cond (.t 22) .skip (.exit 0)))
 (.block 1 (.ops [(I 23 (.mv (.t 3))), (I 24 (.mv (.t 0))), (I 25 (.call 77 [(.t 24)])), (I 26 (.mkl (.agg ([.int .i64 0, .int .u64 0, .int .u64 0, .int .u64 0, .int .u64 0, .list true []])) 1 [(0, (.t 25))])), (I 27 (.app 6 (.t 23) (.t 26))), (I 3 (.mv (.t 27)))])))))
 (.seq (.ops [(I 28 (.mv (.t 3))), (I 29 (.call 73 [(.k (.int .i64 2)), (.t 28)])),
  ⟨none, .st 6 (.t 2) (.t 29), none⟩])
 .ret)))), [.cell 2 6 true], false⟩
/-- (*eyot/regex.reader).sees -/
def a72 : AFn := ⟨2, (.seq (.ops [(I 4 (.mv (.k (.bool false))))])
 (.seq (.ops [(I 5 (.mv (.t 0))), (I 6 (.nilc (.t 5))), (I 7 (.fa 0 1 false (.t 6))), (I 8 (.ld 1 false (.t 7))), (I 9 (.lns (.t 8))), (I 10 (.bin .gtr (.t 9) (.k (.int .i64 0)))), (I 11 (.mv (.t 10))),
  ⟨some 12, .mv (.t 0), some (11, true)⟩,
  ⟨some 13, .nilc (.t 12), some (11, true)⟩,
  ⟨some 14, .fa 0 1 false (.t 13), some (11, true)⟩,
  ⟨some 15, .ld 1 false (.t 14), some (11, true)⟩,
  ⟨some 16, .ixs (.t 15) (.k (.int .i64 0)), some (11, true)⟩,
  ⟨some 17, .mv (.t 1), some (11, true)⟩,
  ⟨some 18, .bin .eql (.t 16) (.t 17), some (11, true)⟩, (I 19 (.pick (.t 11) (.t 18) (.k (.bool false)))), (I 4 (.mv (.t 19)))])
 .ret)), [.tmp 4], true⟩
/-- eyot/regex.one -/
def a73 : AFn := ⟨2, (.seq (.ops [(I 4 (.alv ([.int .i64 0, .int .u64 0, .int .u64 0, .int .u64 0, .int .u64 0, .list true []])))])
 (.seq (.seq (.ops [(I 5 (.mv (.t 1))), (I 6 (.len (.t 5))), (I 7 (.bin .eql (.t 6) (.k (.int .i64 1))))])
 (.cond (.t 7) (.seq (.ops [(I 8 (.mv (.t 1))), (I 9 (.ix 6 (.t 8) (.k (.int .i64 0)))), (I 10 (.ld 6 true (.t 9))),
  ⟨none, .st 6 (.t 4) (.t 10), none⟩])
 .ret) .skip))
 (.seq (.ops [(I 11 (.mv (.t 0))), (I 12 (.mv (.t 1))), (I 13 (.bld (.agg ([.int .i64 0, .int .u64 0, .int .u64 0, .int .u64 0, .int .u64 0, .list true []])) [((0, 1), (.t 11)), ((5, 1), (.t 12))])),
  ⟨none, .st 6 (.t 4) (.t 13), none⟩])
 .ret))), [.cell 4 6 true], true⟩
/-- (*eyot/regex.reader).alt -/
def a74 : AFn := ⟨1, (.seq (.ops [(I 2 (.alv ([.int .i64 0, .int .u64 0, .int .u64 0, .int .u64 0, .int .u64 0, .list true []])))])
 (.seq (.ops [(I 4 (.mv (.t 0))), (I 5 (.call 71 [(.t 4)])), (I 6 (.mkm (.agg ([.int .i64 0, .int .u64 0, .int .u64 0, .int .u64 0, .int .u64 0, .list true []])) 1 [(0, (.t 5))])), (I 3 (.mv (.t 6)))])
 (.seq (.block 0 (.loop [0, 2, 3] (.seq (.seq (.ops [(I 7 (.mv (.t 0))), (I 8 (.call 72 [(.t 7), (.k (.int .u8 124))]))])
 (.cond (.t 8) .skip (.exit 0)))
 (.block 1 (.seq (.ops [(I 9 (.mv (.t 0))), (I 10 (.mv (.t 0))), (I 11 (.nilc (.t 10))), (I 12 (.fa 0 1 false (.t 11))), (I 13 (.ld 1 false (.t 12))), (I 14 (.ss (.t 13) (some (.k (.int .i64 1))) none)), (I 15 (.nilc (.t 9))), (I 16 (.fa 0 1 false (.t 15))),
  ⟨none, .st 1 (.t 16) (.t 14), none⟩])
 (.ops [(I 17 (.mv (.t 3))), (I 18 (.mv (.t 0))), (I 19 (.call 71 [(.t 18)])), (I 20 (.mkl (.agg ([.int .i64 0, .int .u64 0, .int .u64 0, .int .u64 0, .int .u64 0, .list true []])) 1 [(0, (.t 19))])), (I 21 (.app 6 (.t 17) (.t 20))), (I 3 (.mv (.t 21)))]))))))
 (.seq (.ops [(I 22 (.mv (.t 3))), (I 23 (.call 73 [(.k (.int .i64 3)), (.t 22)])),
  ⟨none, .st 6 (.t 2) (.t 23), none⟩])
 .ret)))), [.cell 2 6 true], false⟩
/-- eyot/class.Parse -/
def a75 : AFn := ⟨1, (.seq (.ops [(I 2 (.aob ([.int .u64 0, .int .u64 0, .int .u64 0, .int .u64 0]))), (I 3 (.aob ([.int .i64 0]))), (I 4 (.aob ([.int .i64 0])))])
 (.dfr 8 206 [(.t 2), (.t 3), (.t 4)] 6 (.seq (.ops [(I 9 (.mv (.t 0))), (I 10 (.bld (.agg ([.str [], .int .i64 0])) [((0, 1), (.t 9))])), (I 11 (.bob 2 (.t 10))), (I 5 (.mv (.t 11)))])
 (.seq (.ops [(I 12 (.mv (.t 5))), (I 13 (.call 48 [(.t 12)])),
  ⟨none, .st 4 (.t 2) (.t 13), none⟩])
 (.seq (.seq (.ops [(I 15 (.ldo 4 true (.t 2))), (I 16 (.call 87 [(.t 15)])), (I 14 (.mv (.t 16))), (I 17 (.ext 0 (.t 14))), (I 18 (.ext 1 (.t 14))), (I 6 (.mv (.t 17))), (I 7 (.mv (.t 18)))])
 (.seq (.ops [(I 19 (.mv (.t 7))), (I 20 (.un .not (.t 19)))])
 (.cond (.t 20) (.ops [(I 21 (.bld (.agg ([])) [])), (I 22 (.mkif 1 (.t 21))),
  ⟨none, .pan (.t 22), none⟩]) .skip)))
 (.seq (.dops [(I 23 (.ldo 4 true (.t 2))), (I 24 (.mv (.t 5))), (I 25 (.nilc (.t 24))), (I 26 (.fa 1 1 false (.t 25))), (I 27 (.ld 1 false (.t 26))),
  ⟨none, .sts 4 (.t 2) (.t 23), none⟩,
  ⟨none, .sto 1 (.t 3) (.t 27), none⟩,
  ⟨none, .sto 1 (.t 4) (.k (.int .i64 0)), none⟩])
 .ret))))
 (.seq (.ops [(I 7 (.tas 1 (.agg ([])) true (.t 6))), (I 5 (.mv (.t 7))), (I 8 (.ext 0 (.t 5))), (I 9 (.ext 1 (.t 5))), (I 3 (.alv ([]))),
  ⟨none, .st0 (.t 3) (.t 8), none⟩, (I 4 (.mv (.t 9)))])
 (.seq (.ops [(I 10 (.mv (.t 4)))])
 (.cond (.t 10) (.ops [(I 11 (.bld (.agg ([.int .u64 0, .int .u64 0, .int .u64 0, .int .u64 0])) [])),
  ⟨none, .st 4 (.t 0) (.t 11), none⟩,
  ⟨none, .st 1 (.t 1) (.k (.int .i64 0)), none⟩,
  ⟨none, .st 1 (.t 2) (.k (.int .i64 2)), none⟩]) .skip))))), [.cell 2 4 true, .cell 3 1 false, .cell 4 1 false], true⟩
/-- (*eyot/regex.reader).atom -/
def a76 : AFn := ⟨1, (.seq (.ops [(I 2 (.alv ([.int .i64 0, .int .u64 0, .int .u64 0, .int .u64 0, .int .u64 0, .list true []])))])
 (.seq (.seq (.ops [(I 7 (.mv (.t 0))), (I 8 (.call 72 [(.t 7), (.k (.int .u8 40))])), (I 9 (.un .not (.t 8)))])
 (.cond (.t 9) (.seq (.ops [(I 11 (.mv (.t 0))), (I 12 (.nilc (.t 11))), (I 13 (.fa 0 1 false (.t 12))), (I 14 (.ld 1 false (.t 13))), (I 15 (.call 75 [(.t 14)])), (I 10 (.mv (.t 15))), (I 16 (.ext 0 (.t 10))), (I 17 (.ext 1 (.t 10))), (I 18 (.ext 2 (.t 10))), (I 3 (.alv ([.int .u64 0, .int .u64 0, .int .u64 0, .int .u64 0]))),
  ⟨none, .st 4 (.t 3) (.t 16), none⟩, (I 4 (.mv (.t 17))), (I 5 (.mv (.t 18)))])
 (.seq (.seq (.ops [(I 19 (.mv (.t 5))), (I 20 (.bin .neq (.t 19) (.k (.int .i64 0))))])
 (.cond (.t 20) (.ops [(I 21 (.bld (.agg ([.int .i64 0])) [((0, 1), (.k (.int .i64 2)))])), (I 22 (.mkif 4 (.t 21))),
  ⟨none, .pan (.t 22), none⟩]) .skip))
 (.seq (.ops [(I 23 (.mv (.t 0))), (I 24 (.mv (.t 0))), (I 25 (.nilc (.t 24))), (I 26 (.fa 0 1 false (.t 25))), (I 27 (.ld 1 false (.t 26))), (I 28 (.mv (.t 4))), (I 29 (.ss (.t 27) (some (.t 28)) none)), (I 30 (.nilc (.t 23))), (I 31 (.fa 0 1 false (.t 30))),
  ⟨none, .st 1 (.t 31) (.t 29), none⟩])
 (.seq (.ops [(I 32 (.ldl 4 true 3)), (I 33 (.bld (.agg ([.int .i64 0, .int .u64 0, .int .u64 0, .int .u64 0, .int .u64 0, .list true []])) [((0, 1), (.k (.int .i64 1))), ((1, 4), (.t 32))])),
  ⟨none, .st 6 (.t 2) (.t 33), none⟩])
 .ret)))) .skip))
 (.seq (.seq (.ops [(I 34 (.mv (.t 0))), (I 35 (.nilc (.t 34))), (I 36 (.fa 1 1 false (.t 35))), (I 37 (.ld 1 false (.t 36))), (I 38 (.bin .add (.t 37) (.k (.int .i64 1)))), (I 39 (.nilc (.t 34))), (I 40 (.fa 1 1 false (.t 39))),
  ⟨none, .st 1 (.t 40) (.t 38), none⟩])
 (.seq (.ops [(I 41 (.mv (.t 0))), (I 42 (.nilc (.t 41))), (I 43 (.fa 1 1 false (.t 42))), (I 44 (.ld 1 false (.t 43))), (I 45 (.bin .gtr (.t 44) (.k (.int .i64 13))))])
 (.cond (.t 45) (.ops [(I 46 (.bld (.agg ([.int .i64 0])) [((0, 1), (.k (.int .i64 6)))])), (I 47 (.mkif 4 (.t 46))),
  ⟨none, .pan (.t 47), none⟩]) .skip)))
 (.seq (.ops [(I 48 (.mv (.t 0))), (I 49 (.mv (.t 0))), (I 50 (.nilc (.t 49))), (I 51 (.fa 0 1 false (.t 50))), (I 52 (.ld 1 false (.t 51))), (I 53 (.ss (.t 52) (some (.k (.int .i64 1))) none)), (I 54 (.nilc (.t 48))), (I 55 (.fa 0 1 false (.t 54))),
  ⟨none, .st 1 (.t 55) (.t 53), none⟩])
 (.seq (.ops [(I 56 (.mv (.t 0))), (I 57 (.call 74 [(.t 56)])), (I 6 (.alv ([.int .i64 0, .int .u64 0, .int .u64 0, .int .u64 0, .int .u64 0, .list true []]))),
  ⟨none, .st 6 (.t 6) (.t 57), none⟩])
 (.seq (.seq (.ops [(I 58 (.mv (.t 0))), (I 59 (.call 72 [(.t 58), (.k (.int .u8 41))])), (I 60 (.un .not (.t 59)))])
 (.cond (.t 60) (.ops [(I 61 (.bld (.agg ([.int .i64 0])) [((0, 1), (.k (.int .i64 2)))])), (I 62 (.mkif 4 (.t 61))),
  ⟨none, .pan (.t 62), none⟩]) .skip))
 (.seq (.ops [(I 63 (.mv (.t 0))), (I 64 (.mv (.t 0))), (I 65 (.nilc (.t 64))), (I 66 (.fa 0 1 false (.t 65))), (I 67 (.ld 1 false (.t 66))), (I 68 (.ss (.t 67) (some (.k (.int .i64 1))) none)), (I 69 (.nilc (.t 63))), (I 70 (.fa 0 1 false (.t 69))),
  ⟨none, .st 1 (.t 70) (.t 68), none⟩])
 (.seq (.ops [(I 71 (.mv (.t 0))), (I 72 (.nilc (.t 71))), (I 73 (.fa 1 1 false (.t 72))), (I 74 (.ld 1 false (.t 73))), (I 75 (.bin .sub (.t 74) (.k (.int .i64 1)))), (I 76 (.nilc (.t 71))), (I 77 (.fa 1 1 false (.t 76))),
  ⟨none, .st 1 (.t 77) (.t 75), none⟩])
 (.seq (.ops [(I 78 (.ldl 6 true 6)),
  ⟨none, .st 6 (.t 2) (.t 78), none⟩])
 .ret))))))))), [.cell 2 6 true], false⟩
/-- (*eyot/regex.reader).rep -/
def a77 : AFn := ⟨1, (.seq (.ops [(I 2 (.alv ([.int .i64 0, .int .u64 0, .int .u64 0, .int .u64 0, .int .u64 0, .list true []])))])
 (.seq (.ops [(I 5 (.mv (.t 0))), (I 6 (.call 76 [(.t 5)])), (I 3 (.alv ([.int .i64 0, .int .u64 0, .int .u64 0, .int .u64 0, .int .u64 0, .list true []]))),
  ⟨none, .st 6 (.t 3) (.t 6), none⟩])
 (.seq (.seq (.ops [(I 7 (.mv (.t 0))), (I 8 (.nilc (.t 7))), (I 9 (.fa 0 1 false (.t 8))), (I 10 (.ld 1 false (.t 9))), (I 11 (.lns (.t 10))), (I 12 (.bin .eql (.t 11) (.k (.int .i64 0))))])
 (.cond (.t 12) (.seq (.ops [(I 13 (.ldl 6 true 3)),
  ⟨none, .st 6 (.t 2) (.t 13), none⟩])
 .ret) .skip))
 (.seq (.ops [(I 14 (.mv (.t 0))), (I 15 (.nilc (.t 14))), (I 16 (.fa 0 1 false (.t 15))), (I 17 (.ld 1 false (.t 16))), (I 18 (.ixs (.t 17) (.k (.int .i64 0)))), (I 19 (.call 49 [(.k (.str [42, 43, 63])), (.t 18)])), (I 4 (.mv (.t 19)))])
 (.seq (.seq (.ops [(I 20 (.mv (.t 4))), (I 21 (.bin .lss (.t 20) (.k (.int .i64 0))))])
 (.cond (.t 21) (.seq (.ops [(I 22 (.ldl 6 true 3)),
  ⟨none, .st 6 (.t 2) (.t 22), none⟩])
 .ret) .skip))
 (.seq (.ops [(I 23 (.mv (.t 0))), (I 24 (.mv (.t 0))), (I 25 (.nilc (.t 24))), (I 26 (.fa 0 1 false (.t 25))), (I 27 (.ld 1 false (.t 26))), (I 28 (.ss (.t 27) (some (.k (.int .i64 1))) none)), (I 29 (.nilc (.t 23))), (I 30 (.fa 0 1 false (.t 29))),
  ⟨none, .st 1 (.t 30) (.t 28), none⟩])
 (.seq (.ops [(I 31 (.mv (.t 4))), (I 32 (.bin .add (.k (.int .i64 4)) (.t 31))), (I 33 (.ldl 6 true 3)), (I 34 (.mkm (.agg ([.int .i64 0, .int .u64 0, .int .u64 0, .int .u64 0, .int .u64 0, .list true []])) 1 [(0, (.t 33))])), (I 35 (.bld (.agg ([.int .i64 0, .int .u64 0, .int .u64 0, .int .u64 0, .int .u64 0, .list true []])) [((0, 1), (.t 32)), ((5, 1), (.t 34))])),
  ⟨none, .st 6 (.t 2) (.t 35), none⟩])
 .ret))))))), [.cell 2 6 true], false⟩
/-- (*eyot/table.maker).act -/
def a78 : AFn := ⟨4, (.seq (.ops [(I 7 (.bim 2 (.t 3)))])
 (.seq (.seq (.ops [(I 8 (.mv (.t 2))), (I 9 (.bin .eql (.t 8) (.k (.int .i64 1000))))])
 (.cond (.t 9) (.ops [(I 10 (.mv (.t 0))), (I 11 (.nilc (.t 10))), (I 12 (.fa 0 7 true (.t 11))), (I 13 (.fa 0 1 false (.t 12))), (I 14 (.ld 1 false (.t 13))), (I 15 (.len (.t 14))), (I 2 (.mv (.t 15)))]) .skip))
 (.seq (.seq (.ops [(I 16 (.mv (.t 0))), (I 17 (.nilc (.t 16))), (I 18 (.fa 8 2 true (.t 17))), (I 19 (.fa 0 1 false (.t 18))), (I 20 (.ld 1 false (.t 19))), (I 21 (.mv (.t 1))), (I 22 (.ix 1 (.t 20) (.t 21))), (I 23 (.ld 1 false (.t 22))), (I 24 (.mv (.t 2))), (I 25 (.ix 2 (.t 23) (.t 24))), (I 26 (.fa 0 1 false (.t 25))), (I 27 (.ld 1 false (.t 26))), (I 28 (.bin .neq (.t 27) (.k (.int .i64 0))))])
 (.cond (.t 28) (.ops [(I 29 (.bld (.agg ([])) [])), (I 30 (.mkif 5 (.t 29))),
  ⟨none, .pan (.t 30), none⟩]) .skip))
 (.dops [(I 31 (.mv (.t 0))), (I 32 (.nilc (.t 31))), (I 33 (.fa 8 2 true (.t 32))), (I 34 (.fa 0 1 false (.t 33))), (I 35 (.ldo 1 false (.t 34))), (I 36 (.mv (.t 1))), (I 37 (.ix 1 (.t 35) (.t 36))), (I 38 (.ld 1 false (.t 37))), (I 39 (.mv (.t 2))), (I 40 (.ldi 2 true (.t 7))), (I 41 (.ix 2 (.t 38) (.t 39))),
  ⟨none, .st 2 (.t 41) (.t 40), none⟩])))), [], false⟩
/-- (*eyot/table.maker).ends -/
def a79 : AFn := ⟨2, (.seq (.ops [(I 6 (.mv (.t 0))), (I 7 (.nilc (.t 6))), (I 8 (.fa 7 1 false (.t 7))), (I 9 (.ld 1 false (.t 8))), (I 10 (.mv (.t 1))), (I 11 (.ix 1 (.t 9) (.t 10))), (I 12 (.ld 1 false (.t 11))), (I 13 (.len (.t 12))), (I 14 (.mv (.k (.int .i64 0))))])
 (.block 0 (.loop [0, 1, 12, 13, 14, 23, 24, 25, 38, 39, 40, 41, 42, 43, 44, 45, 46, 47, 48, 49, 50, 51] (.seq (.ops [(I 15 (.bin .lss (.t 14) (.t 13)))])
 (.seq (.cond (.t 15) .skip (.exit 0))
 (.seq (.block 1 (.seq (.ops [(I 16 (.ix 3 (.t 12) (.t 14))), (I 17 (.ld 3 true (.t 16))), (I 5 (.alv ([.int .i64 0, .int .i64 0, .int .i64 0]))),
  ⟨none, .st 3 (.t 5) (.t 17), none⟩])
 (.block 2 (.seq (.ops [(I 19 (.fa 0 1 false (.t 5))), (I 20 (.ldp 1 false (.t 19))), (I 21 (.bin .eql (.t 20) (.k (.int .i64 (-1))))), (I 22 (.mv (.t 21))),
  ⟨some 23, .fa 1 1 false (.t 5), some (22, true)⟩,
  ⟨some 24, .ldp 1 false (.t 23), some (22, true)⟩,
  ⟨some 25, .bin .eql (.t 24) (.k (.int .i64 1)), some (22, true)⟩, (I 26 (.pick (.t 22) (.t 25) (.k (.bool false)))), (I 18 (.mv (.t 26)))])
 (.cond (.t 18) (.ops [(I 27 (.mv (.t 0))), (I 28 (.mv (.t 1))), (I 29 (.fa 2 1 false (.t 5))), (I 30 (.ldp 1 false (.t 29))), (I 31 (.bld (.agg ([.int .i64 0, .int .i64 0])) [((0, 1), (.k (.int .i64 3)))])), (I 32 (.call 78 [(.t 27), (.t 28), (.t 30), (.t 31)]))]) (.seq (.dops [(I 34 (.fa 0 1 false (.t 5))), (I 35 (.ldp 1 false (.t 34))), (I 36 (.bin .geq (.t 35) (.k (.int .i64 0)))), (I 37 (.mv (.t 36))),
  ⟨some 38, .fa 1 1 false (.t 5), some (37, true)⟩,
  ⟨some 39, .ldp 1 false (.t 38), some (37, true)⟩,
  ⟨some 40, .mv (.t 0), some (37, true)⟩,
  ⟨some 41, .nilc (.t 40), some (37, true)⟩,
  ⟨some 42, .fa 0 7 true (.t 41), some (37, true)⟩,
  ⟨some 43, .fa 3 1 false (.t 42), some (37, true)⟩,
  ⟨some 44, .ldo 1 false (.t 43), some (37, true)⟩,
  ⟨some 45, .fa 0 1 false (.t 5), some (37, true)⟩,
  ⟨some 46, .ldp 1 false (.t 45), some (37, true)⟩,
  ⟨some 47, .ix 3 (.t 44) (.t 46), some (37, true)⟩,
  ⟨some 48, .fa 1 1 false (.t 47), some (37, true)⟩,
  ⟨some 49, .ld 1 false (.t 48), some (37, true)⟩,
  ⟨some 50, .len (.t 49), some (37, true)⟩,
  ⟨some 51, .bin .eql (.t 39) (.t 50), some (37, true)⟩, (I 52 (.pick (.t 37) (.t 51) (.k (.bool false)))), (I 33 (.mv (.t 52)))])
 (.cond (.t 33) (.ops [(I 53 (.mv (.t 0))), (I 54 (.mv (.t 1))), (I 55 (.fa 2 1 false (.t 5))), (I 56 (.ldp 1 false (.t 55))), (I 57 (.fa 0 1 false (.t 5))), (I 58 (.ldp 1 false (.t 57))), (I 59 (.bld (.agg ([.int .i64 0, .int .i64 0])) [((0, 1), (.k (.int .i64 2))), ((1, 1), (.t 58))])), (I 60 (.call 78 [(.t 53), (.t 54), (.t 56), (.t 59)]))]) .skip)))))))
 (.ops [(I 61 (.bin .add (.t 14) (.k (.int .i64 1)))), (I 14 (.mv (.t 61)))]))))))), [], false⟩
/-- (*eyot/table.maker).moves -/
def a80 : AFn := ⟨3, (.seq (.ops [(I 9 (.mv (.t 0))), (I 10 (.nilc (.t 9))), (I 11 (.fa 0 7 true (.t 10))), (I 12 (.fa 0 1 false (.t 11))), (I 13 (.ld 1 false (.t 12))), (I 14 (.len (.t 13))), (I 6 (.mv (.t 14)))])
 (.seq (.seq (.ops [(I 15 (.mv (.t 2))), (I 16 (.mv (.t 6))), (I 17 (.sl 1 (.t 15) none (some (.t 16)) none)), (I 18 (.len (.t 17))), (I 19 (.mv (.k (.int .i64 0))))])
 (.block 0 (.loop [0, 1, 2, 6, 17, 18, 19] (.seq (.ops [(I 20 (.bin .lss (.t 19) (.t 18)))])
 (.seq (.cond (.t 20) .skip (.exit 0))
 (.seq (.block 1 (.seq (.ops [(I 21 (.mv (.t 19))), (I 22 (.ix 1 (.t 17) (.t 19))), (I 23 (.ld 1 false (.t 22))), (I 7 (.mv (.t 21))), (I 8 (.mv (.t 23)))])
 (.seq (.ops [(I 24 (.mv (.t 8))), (I 25 (.bin .geq (.t 24) (.k (.int .i64 0))))])
 (.cond (.t 25) (.ops [(I 26 (.mv (.t 0))), (I 27 (.mv (.t 1))), (I 28 (.mv (.t 7))), (I 29 (.mv (.t 8))), (I 30 (.bld (.agg ([.int .i64 0, .int .i64 0])) [((0, 1), (.k (.int .i64 1))), ((1, 1), (.t 29))])), (I 31 (.call 78 [(.t 26), (.t 27), (.t 28), (.t 30)]))]) .skip))))
 (.ops [(I 32 (.bin .add (.t 19) (.k (.int .i64 1)))), (I 19 (.mv (.t 32)))])))))))
 (.dops [(I 33 (.mv (.t 0))), (I 34 (.nilc (.t 33))), (I 35 (.fa 8 2 true (.t 34))), (I 36 (.fa 1 1 false (.t 35))), (I 37 (.ldo 1 false (.t 36))), (I 38 (.mv (.t 1))), (I 39 (.ix 1 (.t 37) (.t 38))), (I 40 (.ld 1 false (.t 39))), (I 41 (.mv (.t 2))), (I 42 (.mv (.t 6))), (I 43 (.sl 1 (.t 41) (some (.t 42)) none none)), (I 44 (.cpy 1 (.t 40) (.t 43)))]))), [], false⟩
/-- (eyot/wide.rules).next -/
def a81 : AFn := ⟨3, (.seq (.ops [(I 3 (.bim 10 (.t 0))), (I 6 (.mv (.k (.int .i64 0)))), (I 7 (.mv (.k (.bool false))))])
 (.seq (.block 0 (.seq (.ops [(I 9 (.fa 0 7 true (.t 3))), (I 10 (.fa 0 1 false (.t 9))), (I 11 (.ldi 1 false (.t 10))), (I 12 (.mv (.t 2))), (I 13 (.ix 8 (.t 11) (.t 12))), (I 14 (.fa 7 1 false (.t 13))), (I 15 (.ld 1 false (.t 14))), (I 8 (.mv (.t 15)))])
 (.cond (.t 8) (.seq (.ops [(I 16 (.mv (.t 1))), (I 17 (.mv (.t 1))), (I 18 (.bin .neq (.t 17) (.k (.int .i64 (-1))))), (I 6 (.mv (.t 16))), (I 7 (.mv (.t 18)))])
 .ret) (.seq (.ops [(I 20 (.mv (.t 1))), (I 21 (.bin .eql (.t 20) (.k (.int .i64 (-1))))), (I 19 (.mv (.t 21)))])
 (.cond (.t 19) (.seq (.ops [(I 22 (.mv (.t 2))), (I 23 (.fa 7 1 false (.t 3))), (I 24 (.ldi 1 false (.t 23))), (I 25 (.mv (.t 2))), (I 26 (.call 10 [(.t 24), (.t 25)])), (I 6 (.mv (.t 22))), (I 7 (.mv (.t 26)))])
 .ret) .skip)))))
 (.seq (.dops [(I 27 (.mv (.t 2))), (I 28 (.fa 9 1 false (.t 3))), (I 29 (.ldi 1 false (.t 28))), (I 30 (.mv (.t 1))), (I 31 (.mv (.t 2))), (I 32 (.bld (.agg ([.int .i64 0, .int .i64 0])) [((0, 1), (.t 30)), ((1, 1), (.t 31))])), (I 33 (.mpl 2 (.bool false) false (.t 29) (.t 32))), (I 6 (.mv (.t 27))), (I 7 (.mv (.t 33)))])
 .ret))), [.tmp 6, .tmp 7], true⟩
/-- (*eyot/wide.walker).goes -/
def a82 : AFn := ⟨3, (.seq (.ops [(I 4 (.bim 4 (.t 1))), (I 5 (.bim 4 (.t 2)))])
 (.seq (.dops [(I 14 (.mv (.t 0))), (I 15 (.nilc (.t 14))), (I 16 (.fa 10 1 false (.t 15))), (I 17 (.ldo 1 false (.t 16))), (I 18 (.fa 1 1 false (.t 5))), (I 19 (.ldi 1 false (.t 18))), (I 20 (.ix 5 (.t 17) (.t 19))), (I 21 (.fa 0 1 false (.t 20))), (I 22 (.ld 1 false (.t 21))), (I 23 (.fa 2 1 false (.t 5))), (I 24 (.ldi 1 false (.t 23))), (I 25 (.ix 4 (.t 22) (.t 24))), (I 26 (.ld 4 true (.t 25))), (I 27 (.mv (.t 0))), (I 28 (.fa 3 1 false (.t 5))), (I 29 (.ldi 1 false (.t 28))), (I 30 (.call 85 [(.t 27), (.t 29)])), (I 31 (.call 86 [(.t 26), (.t 30)])), (I 32 (.call 87 [(.t 31)])), (I 13 (.mv (.t 32))), (I 33 (.ext 0 (.t 13))), (I 34 (.ext 1 (.t 13))), (I 6 (.mv (.t 33))), (I 7 (.mv (.t 34)))])
 (.seq (.seq (.ops [(I 35 (.mv (.t 7))), (I 36 (.un .not (.t 35)))])
 (.cond (.t 36) .ret .skip))
 (.seq (.ops [(I 37 (.mv (.t 0))), (I 38 (.fa 3 1 false (.t 5))), (I 39 (.ldi 1 false (.t 38))), (I 40 (.call 88 [(.t 37), (.t 39)])), (I 41 (.len (.t 40))), (I 42 (.mv (.k (.int .i64 0))))])
 (.block 0 (.loop [0, 4, 5, 6, 40, 41, 42] (.seq (.ops [(I 43 (.bin .lss (.t 42) (.t 41)))])
 (.seq (.cond (.t 43) .skip (.exit 0))
 (.seq (.block 1 (.seq (.ops [(I 44 (.ix 1 (.t 40) (.t 42))), (I 45 (.ld 1 false (.t 44))), (I 9 (.mv (.t 45)))])
 (.seq (.ops [(I 46 (.fa 0 1 false (.t 5))), (I 47 (.ldi 1 false (.t 46))), (I 48 (.fa 1 1 false (.t 5))), (I 49 (.ldi 1 false (.t 48))), (I 50 (.fa 2 1 false (.t 5))), (I 51 (.ldi 1 false (.t 50))), (I 52 (.mv (.t 9))), (I 53 (.bld (.agg ([.int .i64 0, .int .i64 0, .int .i64 0, .int .i64 0])) [((0, 1), (.t 47)), ((1, 1), (.t 49)), ((2, 1), (.t 51)), ((3, 1), (.t 52))])), (I 10 (.alv ([.int .i64 0, .int .i64 0, .int .i64 0, .int .i64 0]))),
  ⟨none, .st 4 (.t 10) (.t 53), none⟩])
 (.seq (.dops [(I 55 (.mv (.t 0))), (I 56 (.nilc (.t 55))), (I 57 (.fa 13 1 false (.t 56))), (I 58 (.ldo 1 false (.t 57))), (I 59 (.ldl 4 true 10)), (I 60 (.mpl 4 (.agg ([.int .i64 0, .int .i64 0, .int .i64 0, .int .i64 0, .int .u8 0])) true (.t 58) (.t 59))), (I 54 (.mv (.t 60))), (I 61 (.ext 0 (.t 54))), (I 62 (.ext 1 (.t 54))), (I 11 (.alv ([.int .i64 0, .int .i64 0, .int .i64 0, .int .i64 0, .int .u8 0]))),
  ⟨none, .st 5 (.t 11) (.t 61), none⟩, (I 12 (.mv (.t 62)))])
 (.seq (.ops [(I 63 (.mv (.t 12))), (I 64 (.un .not (.t 63)))])
 (.cond (.t 64) (.seq (.dops [(I 65 (.mv (.t 0))), (I 66 (.nilc (.t 65))), (I 67 (.fa 13 1 false (.t 66))), (I 68 (.ldo 1 false (.t 67))), (I 69 (.ldl 4 true 10)), (I 70 (.ldi 4 true (.t 4))), (I 71 (.mv (.t 6))), (I 72 (.bld (.agg ([.int .i64 0, .int .i64 0, .int .i64 0, .int .i64 0, .int .u8 0])) [((0, 4), (.t 70)), ((4, 1), (.t 71))])),
  ⟨none, .mpu 4 (.t 68) (.t 69) (.t 72), none⟩])
 (.dops [(I 73 (.mv (.t 0))), (I 74 (.mv (.t 0))), (I 75 (.nilc (.t 74))), (I 76 (.fa 14 1 false (.t 75))), (I 77 (.ldo 1 false (.t 76))), (I 78 (.ldl 4 true 10)), (I 79 (.mkl (.agg ([.int .i64 0, .int .i64 0, .int .i64 0, .int .i64 0])) 1 [(0, (.t 78))])), (I 80 (.app 4 (.t 77) (.t 79))), (I 81 (.nilc (.t 73))), (I 82 (.fa 14 1 false (.t 81))),
  ⟨none, .sto 1 (.t 82) (.t 80), none⟩])) .skip))))))
 (.ops [(I 83 (.bin .add (.t 42) (.k (.int .i64 1)))), (I 42 (.mv (.t 83)))])))))))))), [], false⟩
/-- (*eyot/wide.walker).begins -/
def a83 : AFn := ⟨4, (.seq (.ops [(I 5 (.bim 4 (.t 1)))])
 (.seq (.ops [(I 13 (.mv (.t 0))), (I 14 (.nilc (.t 13))), (I 15 (.fa 10 1 false (.t 14))), (I 16 (.ld 1 false (.t 15))), (I 17 (.len (.t 16))), (I 18 (.mv (.k (.int .i64 0))))])
 (.block 0 (.loop [0, 2, 3, 5, 17, 18] (.seq (.ops [(I 19 (.bin .lss (.t 18) (.t 17)))])
 (.seq (.cond (.t 19) .skip (.exit 0))
 (.seq (.block 1 (.seq (.ops [(I 20 (.mv (.t 18))), (I 8 (.mv (.t 20)))])
 (.seq (.ops [(I 22 (.mv (.t 0))), (I 23 (.nilc (.t 22))), (I 24 (.fa 0 10 true (.t 23))), (I 25 (.ld 10 true (.t 24))), (I 26 (.mv (.t 2))), (I 27 (.mv (.t 8))), (I 28 (.call 81 [(.t 25), (.t 26), (.t 27)])), (I 21 (.mv (.t 28))), (I 29 (.ext 0 (.t 21))), (I 30 (.ext 1 (.t 21))), (I 9 (.mv (.t 29))), (I 10 (.mv (.t 30)))])
 (.seq (.seq (.ops [(I 31 (.mv (.t 10))), (I 32 (.un .not (.t 31)))])
 (.cond (.t 32) (.exit 1) .skip))
 (.seq (.ops [(I 33 (.mv (.t 0))), (I 34 (.nilc (.t 33))), (I 35 (.fa 10 1 false (.t 34))), (I 36 (.ld 1 false (.t 35))), (I 37 (.mv (.t 8))), (I 38 (.ix 5 (.t 36) (.t 37))), (I 39 (.fa 1 1 false (.t 38))), (I 40 (.ld 1 false (.t 39))), (I 41 (.len (.t 40))), (I 42 (.mv (.k (.int .i64 0))))])
 (.block 2 (.loop [0, 2, 3, 5, 8, 9, 17, 18, 40, 41, 42] (.seq (.ops [(I 43 (.bin .lss (.t 42) (.t 41)))])
 (.seq (.cond (.t 43) .skip (.exit 2))
 (.seq (.block 3 (.seq (.ops [(I 44 (.ix 1 (.t 40) (.t 42))), (I 45 (.ld 1 false (.t 44))), (I 12 (.mv (.t 45)))])
 (.ops [(I 46 (.mv (.t 0))), (I 47 (.ldi 4 true (.t 5))), (I 48 (.mv (.t 9))), (I 49 (.mv (.t 8))), (I 50 (.mv (.t 12))), (I 51 (.mv (.t 3))), (I 52 (.bld (.agg ([.int .i64 0, .int .i64 0, .int .i64 0, .int .i64 0])) [((0, 1), (.t 48)), ((1, 1), (.t 49)), ((2, 1), (.t 50)), ((3, 1), (.t 51))])), (I 53 (.call 82 [(.t 46), (.t 47), (.t 52)]))])))
 (.ops [(I 54 (.bin .add (.t 42) (.k (.int .i64 1)))), (I 42 (.mv (.t 54)))])))))))))))
 (.ops [(I 55 (.bin .add (.t 18) (.k (.int .i64 1)))), (I 18 (.mv (.t 55)))])))))))), [], false⟩
/-- (*eyot/wide.walker).far -/
def a84 : AFn := ⟨1, (.seq (.ops [(I 2 (.mv (.k (.int .i64 0))))])
 (.seq (.ops [(I 3 (.mv (.t 0))), (I 4 (.nilc (.t 3))), (I 5 (.fa 11 1 false (.t 4))), (I 6 (.ld 1 false (.t 5))), (I 7 (.un .neg (.t 6))), (I 8 (.bin .sub (.t 7) (.k (.int .i64 1)))), (I 2 (.mv (.t 8)))])
 .ret)), [.tmp 2], true⟩
/-- (*eyot/wide.walker).set -/
def a85 : AFn := ⟨2, (.seq (.ops [(I 4 (.alv ([.int .u64 0, .int .u64 0, .int .u64 0, .int .u64 0])))])
 (.seq (.block 0 (.seq (.ops [(I 6 (.mv (.t 1))), (I 7 (.bin .lss (.t 6) (.k (.int .i64 0)))), (I 8 (.mv (.t 7))),
  ⟨some 9, .mv (.t 1), some (8, true)⟩,
  ⟨some 10, .mv (.t 0), some (8, true)⟩,
  ⟨some 11, .nilc (.t 10), some (8, true)⟩,
  ⟨some 12, .fa 11 1 false (.t 11), some (8, true)⟩,
  ⟨some 13, .ld 1 false (.t 12), some (8, true)⟩,
  ⟨some 14, .un .neg (.t 13), some (8, true)⟩,
  ⟨some 15, .bin .geq (.t 9) (.t 14), some (8, true)⟩, (I 16 (.pick (.t 8) (.t 15) (.k (.bool false)))), (I 5 (.mv (.t 16)))])
 (.cond (.t 5) (.seq (.dops [(I 17 (.mv (.t 0))), (I 18 (.nilc (.t 17))), (I 19 (.fa 0 10 true (.t 18))), (I 20 (.fa 0 7 true (.t 19))), (I 21 (.fa 4 1 false (.t 20))), (I 22 (.ldo 1 false (.t 21))), (I 23 (.mv (.t 1))), (I 24 (.mv (.t 0))), (I 25 (.nilc (.t 24))), (I 26 (.fa 11 1 false (.t 25))), (I 27 (.ldo 1 false (.t 26))), (I 28 (.bin .add (.t 23) (.t 27))), (I 29 (.ix 4 (.t 22) (.t 28))), (I 30 (.ld 4 true (.t 29))),
  ⟨none, .st 4 (.t 4) (.t 30), none⟩])
 .ret) (.seq (.ops [(I 32 (.mv (.t 1))), (I 33 (.bin .geq (.t 32) (.k (.int .i64 0)))), (I 34 (.mv (.t 33))),
  ⟨some 35, .mv (.t 1), some (34, true)⟩,
  ⟨some 36, .mv (.t 0), some (34, true)⟩,
  ⟨some 37, .nilc (.t 36), some (34, true)⟩,
  ⟨some 38, .fa 12 1 false (.t 37), some (34, true)⟩,
  ⟨some 39, .ld 1 false (.t 38), some (34, true)⟩,
  ⟨some 40, .bin .lss (.t 35) (.t 39), some (34, true)⟩, (I 41 (.pick (.t 34) (.t 40) (.k (.bool false)))), (I 31 (.mv (.t 41)))])
 (.cond (.t 31) (.seq (.ops [(I 42 (.mv (.t 0))), (I 43 (.nilc (.t 42))), (I 44 (.fa 0 10 true (.t 43))), (I 45 (.fa 0 7 true (.t 44))), (I 46 (.fa 5 1 false (.t 45))), (I 47 (.ld 1 false (.t 46))), (I 48 (.mv (.t 1))), (I 49 (.ix 4 (.t 47) (.t 48))), (I 50 (.ld 4 true (.t 49))),
  ⟨none, .st 4 (.t 4) (.t 50), none⟩])
 .ret) .skip)))))
 (.seq (.ops [(I 51 (.bld (.agg ([.int .u64 0, .int .u64 0, .int .u64 0, .int .u64 0])) [])), (I 52 (.call 45 [(.t 51)])),
  ⟨none, .st 4 (.t 4) (.t 52), none⟩])
 .ret))), [.cell 4 4 true], true⟩
/-- eyot/class.And -/
def a86 : AFn := ⟨2, (.seq (.ops [(I 2 (.bim 4 (.t 0))), (I 3 (.bim 4 (.t 1))), (I 4 (.alv ([.int .u64 0, .int .u64 0, .int .u64 0, .int .u64 0])))])
 (.seq (.ops [(I 5 (.ldi 4 true (.t 2))), (I 6 (.ldi 4 true (.t 3))), (I 7 (.call 94 [(.t 5), (.t 6), (.k (.fn 95 []))])),
  ⟨none, .st 4 (.t 4) (.t 7), none⟩])
 .ret)), [.cell 4 4 true], true⟩
/-- eyot/class.Least -/
def a87 : AFn := ⟨1, (.seq (.ops [(I 1 (.bim 4 (.t 0))), (I 2 (.mv (.k (.int .u8 0)))), (I 3 (.mv (.k (.bool false))))])
 (.seq (.seq (.ops [(I 6 (.ldi 4 true (.t 1))), (I 7 (.mv (.k (.int .i64 0))))])
 (.block 0 (.loop [6, 7] (.seq (.ops [(I 8 (.bin .lss (.t 7) (.k (.int .i64 4))))])
 (.seq (.cond (.t 8) .skip (.exit 0))
 (.seq (.block 1 (.seq (.ops [(I 9 (.mv (.t 7))), (I 10 (.ixa 4 1 false (.t 6) (.t 7))), (I 4 (.mv (.t 9))), (I 5 (.mv (.t 10)))])
 (.seq (.ops [(I 11 (.mv (.t 5))), (I 12 (.bin .neq (.t 11) (.k (.int .u64 0))))])
 (.cond (.t 12) (.seq (.ops [(I 13 (.mv (.t 4))), (I 14 (.bin .mul (.k (.int .i64 64)) (.t 13))), (I 15 (.mv (.t 5))), (I 16 (.call 96 [(.t 15)])), (I 17 (.bin .add (.t 14) (.t 16))), (I 18 (.cvi .u8 (.t 17))), (I 2 (.mv (.t 18))), (I 3 (.mv (.k (.bool true))))])
 .ret) .skip))))
 (.ops [(I 19 (.bin .add (.t 7) (.k (.int .i64 1)))), (I 7 (.mv (.t 19)))])))))))
 (.seq (.ops [(I 2 (.mv (.k (.int .u8 0)))), (I 3 (.mv (.k (.bool false))))])
 .ret))), [.tmp 2, .tmp 3], true⟩
/-- (*eyot/wide.walker).offs -/
def a88 : AFn := ⟨2, (.seq (.ops [(I 4 (.mv (.k (.list true []))))])
 (.seq (.block 0 (.seq (.ops [(I 6 (.mv (.t 1))), (I 7 (.mv (.t 0))), (I 8 (.call 84 [(.t 7)])), (I 9 (.bin .eql (.t 6) (.t 8))), (I 10 (.mv (.t 9))),
  ⟨some 11, .mv (.t 0), some (10, true)⟩,
  ⟨some 12, .nilc (.t 11), some (10, true)⟩,
  ⟨some 13, .fa 11 1 false (.t 12), some (10, true)⟩,
  ⟨some 14, .ld 1 false (.t 13), some (10, true)⟩,
  ⟨some 15, .bin .eql (.t 14) (.k (.int .i64 0)), some (10, true)⟩, (I 16 (.pick (.t 10) (.t 15) (.k (.bool false)))), (I 5 (.mv (.t 16)))])
 (.cond (.t 5) (.seq (.ops [(I 17 (.mv (.t 1))), (I 18 (.mkl (.int .i64 0) 2 [(0, (.t 17)), (1, (.k (.int .i64 0)))])), (I 4 (.mv (.t 18)))])
 (.seq (.ops [⟨none, .frz (.sl .no) 4, none⟩]) .ret)) (.seq (.ops [(I 20 (.mv (.t 1))), (I 21 (.mv (.t 0))), (I 22 (.call 84 [(.t 21)])), (I 23 (.bin .eql (.t 20) (.t 22))), (I 19 (.mv (.t 23)))])
 (.cond (.t 19) (.seq (.ops [(I 24 (.mv (.t 1))), (I 25 (.mv (.t 1))), (I 26 (.bin .add (.t 25) (.k (.int .i64 1)))), (I 27 (.mkl (.int .i64 0) 2 [(0, (.t 24)), (1, (.t 26))])), (I 4 (.mv (.t 27)))])
 (.seq (.ops [⟨none, .frz (.sl .no) 4, none⟩]) .ret)) .skip)))))
 (.seq (.ops [(I 28 (.mv (.t 1))), (I 29 (.bin .add (.t 28) (.k (.int .i64 1)))), (I 30 (.mv (.t 0))), (I 31 (.nilc (.t 30))), (I 32 (.fa 12 1 false (.t 31))), (I 33 (.ld 1 false (.t 32))), (I 34 (.mnmx true (.t 33) (.k (.int .i64 1)))), (I 35 (.mnmx false (.t 29) (.t 34))), (I 36 (.mkl (.int .i64 0) 1 [(0, (.t 35))])), (I 4 (.mv (.t 36)))])
 (.seq (.ops [⟨none, .frz (.sl .no) 4, none⟩]) .ret)))), [.tmp 4], true⟩
/-- (eyot/wide.rules).last -/
def a89 : AFn := ⟨2, (.seq (.ops [(I 2 (.bim 10 (.t 0))), (I 4 (.mv (.k (.bool false))))])
 (.seq (.ops [(I 5 (.fa 0 7 true (.t 2))), (I 6 (.fa 0 1 false (.t 5))), (I 7 (.ldi 1 false (.t 6))), (I 8 (.mv (.t 1))), (I 9 (.ix 8 (.t 7) (.t 8))), (I 10 (.fa 7 1 false (.t 9))), (I 11 (.ld 1 false (.t 10))), (I 12 (.un .not (.t 11))), (I 13 (.mv (.t 12))),
  ⟨some 14, .fa 8 1 false (.t 2), some (13, true)⟩,
  ⟨some 15, .ldi 1 false (.t 14), some (13, true)⟩,
  ⟨some 16, .mv (.t 1), some (13, true)⟩,
  ⟨some 17, .call 10 [(.t 15), (.t 16)], some (13, true)⟩, (I 18 (.pick (.t 13) (.t 17) (.k (.bool false)))), (I 4 (.mv (.t 18)))])
 .ret)), [.tmp 4], true⟩
/-- (*eyot/wide.walker).over -/
def a90 : AFn := ⟨2, (.seq (.ops [(I 3 (.bim 4 (.t 1))), (I 4 (.mv (.k (.bool false))))])
 (.seq (.dops [(I 5 (.fa 3 1 false (.t 3))), (I 6 (.ldi 1 false (.t 5))), (I 7 (.bin .geq (.t 6) (.k (.int .i64 1)))), (I 8 (.mv (.t 7))),
  ⟨some 9, .mv (.t 0), some (8, true)⟩,
  ⟨some 10, .nilc (.t 9), some (8, true)⟩,
  ⟨some 11, .fa 0 10 true (.t 10), some (8, true)⟩,
  ⟨some 12, .ldo 10 true (.t 11), some (8, true)⟩,
  ⟨some 13, .fa 1 1 false (.t 3), some (8, true)⟩,
  ⟨some 14, .ldi 1 false (.t 13), some (8, true)⟩,
  ⟨some 15, .call 89 [(.t 12), (.t 14)], some (8, true)⟩, (I 16 (.pick (.t 8) (.t 15) (.k (.bool false)))), (I 17 (.mv (.t 16))),
  ⟨some 18, .mv (.t 0), some (17, true)⟩,
  ⟨some 19, .nilc (.t 18), some (17, true)⟩,
  ⟨some 20, .fa 10 1 false (.t 19), some (17, true)⟩,
  ⟨some 21, .ldo 1 false (.t 20), some (17, true)⟩,
  ⟨some 22, .fa 1 1 false (.t 3), some (17, true)⟩,
  ⟨some 23, .ldi 1 false (.t 22), some (17, true)⟩,
  ⟨some 24, .ix 5 (.t 21) (.t 23), some (17, true)⟩,
  ⟨some 25, .fa 2 1 false (.t 24), some (17, true)⟩,
  ⟨some 26, .ld 1 false (.t 25), some (17, true)⟩,
  ⟨some 27, .fa 2 1 false (.t 3), some (17, true)⟩,
  ⟨some 28, .ldi 1 false (.t 27), some (17, true)⟩,
  ⟨some 29, .call 10 [(.t 26), (.t 28)], some (17, true)⟩, (I 30 (.pick (.t 17) (.t 29) (.k (.bool false)))), (I 4 (.mv (.t 30)))])
 .ret)), [.tmp 4], true⟩
/-- (*eyot/wide.walker).steps -/
def a91 : AFn := ⟨2, (.seq (.ops [(I 3 (.bim 4 (.t 1)))])
 (.seq (.seq (.dops [(I 6 (.mv (.t 0))), (I 7 (.nilc (.t 6))), (I 8 (.fa 10 1 false (.t 7))), (I 9 (.ldo 1 false (.t 8))), (I 10 (.fa 1 1 false (.t 3))), (I 11 (.ldi 1 false (.t 10))), (I 12 (.ix 5 (.t 9) (.t 11))), (I 13 (.fa 3 1 false (.t 12))), (I 14 (.ld 1 false (.t 13))), (I 15 (.fa 2 1 false (.t 3))), (I 16 (.ldi 1 false (.t 15))), (I 17 (.ix 1 (.t 14) (.t 16))), (I 18 (.ld 1 false (.t 17))), (I 19 (.len (.t 18))), (I 20 (.mv (.k (.int .i64 0))))])
 (.block 0 (.loop [0, 3, 18, 19, 20] (.seq (.ops [(I 21 (.bin .lss (.t 20) (.t 19)))])
 (.seq (.cond (.t 21) .skip (.exit 0))
 (.seq (.block 1 (.seq (.ops [(I 22 (.ix 1 (.t 18) (.t 20))), (I 23 (.ld 1 false (.t 22))), (I 5 (.mv (.t 23)))])
 (.ops [(I 24 (.mv (.t 0))), (I 25 (.ldi 4 true (.t 3))), (I 26 (.fa 0 1 false (.t 3))), (I 27 (.ldi 1 false (.t 26))), (I 28 (.fa 1 1 false (.t 3))), (I 29 (.ldi 1 false (.t 28))), (I 30 (.mv (.t 5))), (I 31 (.fa 3 1 false (.t 3))), (I 32 (.ldi 1 false (.t 31))), (I 33 (.bld (.agg ([.int .i64 0, .int .i64 0, .int .i64 0, .int .i64 0])) [((0, 1), (.t 27)), ((1, 1), (.t 29)), ((2, 1), (.t 30)), ((3, 1), (.t 32))])), (I 34 (.call 82 [(.t 24), (.t 25), (.t 33)]))])))
 (.ops [(I 35 (.bin .add (.t 20) (.k (.int .i64 1)))), (I 20 (.mv (.t 35)))])))))))
 (.seq (.dops [(I 36 (.mv (.t 0))), (I 37 (.nilc (.t 36))), (I 38 (.fa 10 1 false (.t 37))), (I 39 (.ldo 1 false (.t 38))), (I 40 (.fa 1 1 false (.t 3))), (I 41 (.ldi 1 false (.t 40))), (I 42 (.ix 5 (.t 39) (.t 41))), (I 43 (.fa 2 1 false (.t 42))), (I 44 (.ld 1 false (.t 43))), (I 45 (.fa 2 1 false (.t 3))), (I 46 (.ldi 1 false (.t 45))), (I 47 (.call 10 [(.t 44), (.t 46)]))])
 (.cond (.t 47) (.ops [(I 48 (.mv (.t 0))), (I 49 (.ldi 4 true (.t 3))), (I 50 (.fa 0 1 false (.t 3))), (I 51 (.ldi 1 false (.t 50))), (I 52 (.fa 3 1 false (.t 3))), (I 53 (.ldi 1 false (.t 52))), (I 54 (.call 83 [(.t 48), (.t 49), (.t 51), (.t 53)]))]) .skip)))), [], false⟩
/-- eyot/wide.start -/
def a92 : AFn := ⟨0, (.seq (.ops [(I 0 (.alv ([.int .i64 0, .int .i64 0, .int .i64 0, .int .i64 0])))])
 (.seq (.ops [(I 1 (.bld (.agg ([.int .i64 0, .int .i64 0, .int .i64 0, .int .i64 0])) [((0, 1), (.k (.int .i64 (-1)))), ((1, 1), (.k (.int .i64 (-1)))), ((2, 1), (.k (.int .i64 (-1)))), ((3, 1), (.k (.int .i64 0)))])),
  ⟨none, .st 4 (.t 0) (.t 1), none⟩])
 .ret)), [.cell 0 4 true], true⟩
/-- cmp.Or[int] -/
def a93 : AFn := ⟨1, (.seq (.ops [(I 2 (.mv (.k (.int .i64 0))))])
 (.seq (.ops [(I 3 (.mv (.k (.int .i64 0))))])
 (.seq (.seq (.ops [(I 6 (.mv (.t 0))), (I 7 (.len (.t 6))), (I 8 (.mv (.k (.int .i64 0))))])
 (.block 0 (.loop [3, 6, 7, 8] (.seq (.ops [(I 9 (.bin .lss (.t 8) (.t 7)))])
 (.seq (.cond (.t 9) .skip (.exit 0))
 (.seq (.block 1 (.seq (.ops [(I 10 (.ix 1 (.t 6) (.t 8))), (I 11 (.ld 1 false (.t 10))), (I 5 (.mv (.t 11)))])
 (.seq (.ops [(I 12 (.mv (.t 5))), (I 13 (.mv (.t 3))), (I 14 (.bin .neq (.t 12) (.t 13)))])
 (.cond (.t 14) (.seq (.ops [(I 15 (.mv (.t 5))), (I 2 (.mv (.t 15)))])
 .ret) .skip))))
 (.ops [(I 16 (.bin .add (.t 8) (.k (.int .i64 1)))), (I 8 (.mv (.t 16)))])))))))
 (.seq (.ops [(I 17 (.mv (.t 3))), (I 2 (.mv (.t 17)))])
 .ret)))), [.tmp 2], true⟩
/-- eyot/class.with -/
def a94 : AFn := ⟨3, (.seq (.ops [(I 3 (.blv 4 (.t 0))), (I 4 (.bim 4 (.t 1))), (I 6 (.alv ([.int .u64 0, .int .u64 0, .int .u64 0, .int .u64 0])))])
 (.seq (.seq (.ops [(I 8 (.mv (.k (.int .i64 0))))])
 (.block 0 (.loop [2, 3, 4, 6, 8] (.seq (.ops [(I 9 (.bin .lss (.t 8) (.k (.int .i64 4))))])
 (.seq (.cond (.t 9) .skip (.exit 0))
 (.seq (.block 1 (.seq (.ops [(I 10 (.mv (.t 8))), (I 7 (.mv (.t 10)))])
 (.dops [(I 11 (.mv (.t 7))), (I 12 (.mv (.t 2))), (I 13 (.mv (.t 7))), (I 14 (.ia 4 1 false (.t 3) (.t 13))), (I 15 (.ldp 1 false (.t 14))), (I 16 (.mv (.t 7))), (I 17 (.ia 4 1 false (.t 4) (.t 16))), (I 18 (.ldi 1 false (.t 17))), (I 19 (.callv (.t 12) [(.t 15), (.t 18)])), (I 20 (.ia 4 1 false (.t 3) (.t 11))),
  ⟨none, .st 1 (.t 20) (.t 19), none⟩])))
 (.ops [(I 21 (.bin .add (.t 8) (.k (.int .i64 1)))), (I 8 (.mv (.t 21)))])))))))
 (.seq (.ops [(I 22 (.ldl 4 true 3)),
  ⟨none, .st 4 (.t 6) (.t 22), none⟩])
 .ret))), [.cell 6 4 true], true⟩
/-- eyot/class.And$1 -/
def a95 : AFn := ⟨2, (.seq (.ops [(I 4 (.mv (.k (.int .u64 0))))])
 (.seq (.ops [(I 5 (.mv (.t 0))), (I 6 (.mv (.t 1))), (I 7 (.bin .and (.t 5) (.t 6))), (I 4 (.mv (.t 7)))])
 .ret)), [.tmp 4], true⟩
/-- math/bits.TrailingZeros64 -/
def a96 : AFn := ⟨1, (.seq (.ops [(I 2 (.mv (.k (.int .i64 0))))])
 (.seq (.seq (.ops [(I 3 (.mv (.t 0))), (I 4 (.bin .eql (.t 3) (.k (.int .u64 0))))])
 (.cond (.t 4) (.seq (.ops [(I 2 (.mv (.k (.int .i64 64))))])
 .ret) .skip))
 (.seq (.ops [(I 5 (.mv (.t 0))), (I 6 (.mv (.t 0))), (I 7 (.un .neg (.t 6))), (I 8 (.bin .and (.t 5) (.t 7))), (I 9 (.bin .mul (.t 8) (.k (.int .u64 285870213051353865)))), (I 10 (.bin .shr (.t 9) (.k (.int .u64 58)))), (I 11 (.ia 64 1 false (.k (.imm (.agg [.int .u8 0, .int .u8 1, .int .u8 56, .int .u8 2, .int .u8 57, .int .u8 49, .int .u8 28, .int .u8 3, .int .u8 61, .int .u8 58, .int .u8 42, .int .u8 50, .int .u8 38, .int .u8 29, .int .u8 17, .int .u8 4, .int .u8 62, .int .u8 47, .int .u8 59, .int .u8 36, .int .u8 45, .int .u8 43, .int .u8 51, .int .u8 22, .int .u8 53, .int .u8 39, .int .u8 33, .int .u8 30, .int .u8 24, .int .u8 18, .int .u8 12, .int .u8 5, .int .u8 63, .int .u8 55, .int .u8 48, .int .u8 27, .int .u8 60, .int .u8 41, .int .u8 37, .int .u8 16, .int .u8 46, .int .u8 35, .int .u8 44, .int .u8 21, .int .u8 52, .int .u8 32, .int .u8 23, .int .u8 11, .int .u8 54, .int .u8 26, .int .u8 40, .int .u8 15, .int .u8 34, .int .u8 20, .int .u8 31, .int .u8 10, .int .u8 25, .int .u8 14, .int .u8 19, .int .u8 9, .int .u8 13, .int .u8 8, .int .u8 7, .int .u8 6]))) (.t 10))), (I 12 (.ld 1 false (.t 11))), (I 13 (.cvi .i64 (.t 12))), (I 2 (.mv (.t 13)))])
 .ret))), [.tmp 2], true⟩
/-- eyot/class.Not$1 -/
def a97 : AFn := ⟨2, (.seq (.ops [(I 4 (.mv (.k (.int .u64 0))))])
 (.seq (.ops [(I 5 (.mv (.t 0))), (I 6 (.un .xor (.t 5))), (I 4 (.mv (.t 6)))])
 .ret)), [.tmp 4], true⟩
/-- eyot/class.Of -/
def a98 : AFn := ⟨1, (.seq (.ops [(I 2 (.alv ([.int .u64 0, .int .u64 0, .int .u64 0, .int .u64 0])))])
 (.seq (.ops [(I 3 (.alv ([.int .u64 0, .int .u64 0, .int .u64 0, .int .u64 0])))])
 (.seq (.seq (.ops [(I 6 (.mv (.t 0))), (I 7 (.len (.t 6))), (I 8 (.mv (.k (.int .i64 0))))])
 (.block 0 (.loop [2, 3, 6, 7, 8] (.seq (.ops [(I 9 (.bin .lss (.t 8) (.t 7)))])
 (.seq (.cond (.t 9) .skip (.exit 0))
 (.seq (.block 1 (.seq (.ops [(I 10 (.ix 1 (.t 6) (.t 8))), (I 11 (.ld 1 false (.t 10))), (I 5 (.mv (.t 11)))])
 (.ops [(I 12 (.mv (.t 5))), (I 13 (.bin .quo (.t 12) (.k (.int .u8 64)))), (I 14 (.ia 4 1 false (.t 3) (.t 13))), (I 15 (.ldp 1 false (.t 14))), (I 16 (.mv (.t 5))), (I 17 (.bin .rem (.t 16) (.k (.int .u8 64)))), (I 18 (.bin .shl (.k (.int .u64 1)) (.t 17))), (I 19 (.bin .or (.t 15) (.t 18))), (I 20 (.ia 4 1 false (.t 3) (.t 13))),
  ⟨none, .st 1 (.t 20) (.t 19), none⟩])))
 (.ops [(I 21 (.bin .add (.t 8) (.k (.int .i64 1)))), (I 8 (.mv (.t 21)))])))))))
 (.seq (.ops [(I 22 (.ldl 4 true 3)),
  ⟨none, .st 4 (.t 2) (.t 22), none⟩])
 .ret)))), [.cell 2 4 true], true⟩
/-- eyot/eyotlaw22.begun -/
def a99 : AFn := ⟨0, (.seq (.ops [(I 0 (.mv (.k (.bool false))))])
 (.seq (.ops [(I 8 (.call 100 [(.k (.int .u8 0))])), (I 9 (.call 101 [(.t 8)])), (I 7 (.mv (.t 9))), (I 10 (.ext 0 (.t 7))), (I 11 (.ext 1 (.t 7))), (I 12 (.ext 2 (.t 7))), (I 1 (.alv (List.replicate 6 (.list true []) ++ [.int .i64 0] ++ List.replicate 256 (.int .u8 0) ++ [.list true [], .list true [], .list true [], .list true []]))),
  ⟨none, .st 267 (.t 1) (.t 10), none⟩, (I 2 (.mv (.t 11))), (I 3 (.mv (.t 12)))])
 (.seq (.ops [(I 14 (.call 101 [(.k (.str []))])), (I 13 (.mv (.t 14))), (I 15 (.ext 0 (.t 13))), (I 16 (.ext 1 (.t 13))), (I 17 (.ext 2 (.t 13))), (I 4 (.alv (List.replicate 6 (.list true []) ++ [.int .i64 0] ++ List.replicate 256 (.int .u8 0) ++ [.list true [], .list true [], .list true [], .list true []]))),
  ⟨none, .st 267 (.t 4) (.t 15), none⟩, (I 5 (.mv (.t 16))), (I 6 (.mv (.t 17)))])
 (.seq (.ops [(I 18 (.mv (.t 3))), (I 19 (.bin .eql (.t 18) (.k (.int .i64 0)))), (I 20 (.mv (.t 19))),
  ⟨some 21, .mv (.t 2), some (20, true)⟩,
  ⟨some 22, .bin .eql (.t 21) (.k (.int .i64 0)), some (20, true)⟩, (I 23 (.pick (.t 20) (.t 22) (.k (.bool false)))), (I 24 (.mv (.t 23))),
  ⟨some 25, .fa 265 2 true (.t 1), some (24, true)⟩,
  ⟨some 26, .fa 0 1 false (.t 25), some (24, true)⟩,
  ⟨some 27, .ldp 1 false (.t 26), some (24, true)⟩,
  ⟨some 28, .len (.t 27), some (24, true)⟩,
  ⟨some 29, .bin .gtr (.t 28) (.k (.int .i64 3)), some (24, true)⟩, (I 30 (.pick (.t 24) (.t 29) (.k (.bool false)))), (I 31 (.mv (.t 30))),
  ⟨some 32, .fa 7 258 true (.t 1), some (31, true)⟩,
  ⟨some 33, .fa 256 1 false (.t 32), some (31, true)⟩,
  ⟨some 34, .ldp 1 false (.t 33), some (31, true)⟩,
  ⟨some 35, .len (.t 34), some (31, true)⟩,
  ⟨some 36, .bin .gtr (.t 35) (.k (.int .i64 1)), some (31, true)⟩, (I 37 (.pick (.t 31) (.t 36) (.k (.bool false)))), (I 38 (.mv (.t 37))),
  ⟨some 39, .fa 0 7 true (.t 1), some (38, true)⟩,
  ⟨some 40, .fa 3 1 false (.t 39), some (38, true)⟩,
  ⟨some 41, .ldp 1 false (.t 40), some (38, true)⟩,
  ⟨some 42, .len (.t 41), some (38, true)⟩,
  ⟨some 43, .bin .eql (.t 42) (.k (.int .i64 3)), some (38, true)⟩, (I 44 (.pick (.t 38) (.t 43) (.k (.bool false)))), (I 45 (.mv (.t 44))),
  ⟨some 46, .mv (.t 6), some (45, true)⟩,
  ⟨some 47, .bin .eql (.t 46) (.k (.int .i64 5)), some (45, true)⟩, (I 48 (.pick (.t 45) (.t 47) (.k (.bool false)))), (I 0 (.mv (.t 48)))])
 .ret)))), [.tmp 0], true⟩
/-- eyot/eyotplay.Text -/
def a100 : AFn := ⟨1, (.seq (.ops [(I 2 (.mv (.k (.str []))))])
 (.seq (.ops [(I 4 (.call 102 [])), (I 3 (.mv (.t 4)))])
 (.seq (.ops [(I 5 (.mv (.t 3))), (I 6 (.mv (.t 0))), (I 7 (.cvi .i64 (.t 6))), (I 8 (.mv (.t 3))), (I 9 (.len (.t 8))), (I 10 (.bin .rem (.t 7) (.t 9))), (I 11 (.ix 1 (.t 5) (.t 10))), (I 12 (.ld 1 false (.t 11))), (I 2 (.mv (.t 12)))])
 .ret))), [.tmp 2], true⟩
end Ey.Lf
