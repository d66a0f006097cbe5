/- Functions of the program, as code of the small language. Printed by seat2.py. -/
import Derived.Test.YtdkddodpioepdaaGreatDoorLfA0
namespace Ey.Lf
set_option maxRecDepth 100000
/-- eyot/lang.Open -/
def a101 : AFn := ⟨1, (.seq (.ops [(I 2 (.aob (List.replicate 6 (.list true []) ++ [.int .i64 0] ++ List.replicate 256 (.int .u8 0) ++ [.list true [], .list true [], .list true [], .list true []]))), (I 3 (.aob ([.int .i64 0]))), (I 4 (.aob ([.int .i64 0])))])
 (.dfr 8 210 [(.t 2), (.t 3), (.t 4)] 6 (.seq (.ops [(I 10 (.mv (.t 0))), (I 11 (.call 144 [(.t 10)])), (I 9 (.mv (.t 11))), (I 12 (.ext 0 (.t 9))), (I 13 (.ext 1 (.t 9))), (I 14 (.ext 2 (.t 9))), (I 5 (.alv (List.replicate 6 (.list true []) ++ [.int .i64 0]))),
  ⟨none, .st 7 (.t 5) (.t 12), none⟩,
  ⟨none, .st 1 (.t 3) (.t 13), none⟩,
  ⟨none, .st 1 (.t 4) (.t 14), none⟩])
 (.seq (.ops [(I 15 (.ldo 1 false (.t 3))), (I 16 (.ldo 1 false (.t 4))), (I 17 (.call 157 [(.t 15), (.t 16)]))])
 (.seq (.ops [(I 19 (.fa 0 1 false (.t 5))), (I 20 (.ldp 1 false (.t 19))), (I 21 (.call 23 [(.t 20)])), (I 18 (.mv (.t 21))), (I 22 (.ext 0 (.t 18))), (I 23 (.ext 1 (.t 18))), (I 6 (.alv (List.replicate 256 (.int .u8 0) ++ [.list true [], .list true []]))),
  ⟨none, .st 258 (.t 6) (.t 22), none⟩,
  ⟨none, .st 1 (.t 4) (.t 23), none⟩])
 (.seq (.ops [(I 24 (.ldo 1 false (.t 4))), (I 25 (.call 157 [(.k (.int .i64 0)), (.t 24)]))])
 (.seq (.ops [(I 27 (.ldl 7 true 5)), (I 28 (.call 184 [(.t 27)])), (I 26 (.mv (.t 28))), (I 29 (.ext 0 (.t 26))), (I 30 (.ext 1 (.t 26))), (I 7 (.alv ([.list true [], .list true []]))),
  ⟨none, .st 2 (.t 7) (.t 29), none⟩,
  ⟨none, .st 1 (.t 4) (.t 30), none⟩])
 (.seq (.ops [(I 31 (.ldo 1 false (.t 4))), (I 32 (.call 157 [(.k (.int .i64 0)), (.t 31)]))])
 (.seq (.ops [(I 34 (.ldl 7 true 5)), (I 35 (.call 185 [(.t 34)])), (I 33 (.mv (.t 35))), (I 36 (.ext 0 (.t 33))), (I 37 (.ext 1 (.t 33))),
  ⟨none, .st 1 (.t 4) (.t 37), none⟩])
 (.seq (.ops [(I 38 (.ldo 1 false (.t 4))), (I 39 (.call 157 [(.k (.int .i64 0)), (.t 38)]))])
 (.seq (.ops [(I 40 (.ldl 7 true 5)), (I 41 (.ldl 258 true 6)), (I 42 (.ldl 2 true 7)), (I 43 (.bld (.agg (List.replicate 6 (.list true []) ++ [.int .i64 0] ++ List.replicate 256 (.int .u8 0) ++ [.list true [], .list true [], .list true [], .list true []])) [((0, 7), (.t 40)), ((7, 258), (.t 41)), ((265, 2), (.t 42))])),
  ⟨none, .st 267 (.t 2) (.t 43), none⟩,
  ⟨none, .st 1 (.t 3) (.k (.int .i64 0)), none⟩,
  ⟨none, .st 1 (.t 4) (.k (.int .i64 0)), none⟩])
 .ret)))))))))
 (.seq (.ops [(I 7 (.tas 6 (.agg ([.int .i64 0, .int .i64 0])) true (.t 6))), (I 5 (.mv (.t 7))), (I 8 (.ext 0 (.t 5))), (I 9 (.ext 1 (.t 5))), (I 3 (.alv ([.int .i64 0, .int .i64 0]))),
  ⟨none, .st 2 (.t 3) (.t 8), none⟩, (I 4 (.mv (.t 9)))])
 (.seq (.ops [(I 10 (.mv (.t 4)))])
 (.cond (.t 10) (.dops [(I 11 (.bld (.agg (List.replicate 6 (.list true []) ++ [.int .i64 0] ++ List.replicate 256 (.int .u8 0) ++ [.list true [], .list true [], .list true [], .list true []])) [])), (I 12 (.fa 0 1 false (.t 3))), (I 13 (.ldp 1 false (.t 12))), (I 14 (.fa 1 1 false (.t 3))), (I 15 (.ldp 1 false (.t 14))),
  ⟨none, .sto 267 (.t 0) (.t 11), none⟩,
  ⟨none, .sto 1 (.t 1) (.t 13), none⟩,
  ⟨none, .sto 1 (.t 2) (.t 15), none⟩]) .skip))))), [.cell 2 267 true, .cell 3 1 false, .cell 4 1 false], false⟩
/-- eyot/eyotplay.texts -/
def a102 : AFn := ⟨0, (.seq (.ops [(I 0 (.mv (.k (.list true []))))])
 (.seq (.ops [(I 1 (.mkl (.str []) 5 [(0, (.k (.str [116, 111, 107, 101, 110, 32, 97, 32, 61, 32, 97, 10, 116, 111, 107, 101, 110, 32, 98, 32, 61, 32, 98, 10, 116, 114, 105, 118, 105, 97, 32, 119, 32, 61, 32, 92, 120, 50, 48, 10, 115, 99, 111, 112, 101, 32, 104, 111, 116, 32, 61, 32, 49, 46, 53, 10, 115, 99, 111, 112, 101, 32, 111, 100, 100, 32, 61, 32, 110, 97, 110, 10, 114, 117, 108, 101, 32, 115, 32, 61, 32, 97, 32, 116, 32, 98, 32, 58, 32, 104, 111, 116, 10, 114, 117, 108, 101, 32, 116, 32, 61, 32, 115, 32, 58, 32, 111, 100, 100, 10, 114, 117, 108, 101, 32, 116, 32, 61, 10, 115, 121, 110, 99, 32, 92, 120, 48, 97, 32, 124, 10, 109, 97, 120, 32, 49, 50, 10]))), (1, (.k (.str [116, 111, 107, 101, 110, 32, 110, 32, 61, 32, 91, 48, 45, 50, 93, 43, 10, 116, 111, 107, 101, 110, 32, 109, 32, 61, 32, 92, 45, 10, 116, 114, 105, 118, 105, 97, 32, 119, 32, 61, 32, 91, 92, 120, 50, 48, 93, 43, 10, 115, 99, 111, 112, 101, 32, 120, 32, 61, 32, 48, 46, 50, 53, 10, 115, 99, 111, 112, 101, 32, 121, 32, 61, 32, 45, 105, 110, 102, 10, 115, 99, 111, 112, 101, 32, 122, 32, 61, 32, 105, 110, 102, 10, 114, 117, 108, 101, 32, 115, 32, 61, 32, 115, 32, 109, 32, 102, 32, 58, 32, 120, 10, 114, 117, 108, 101, 32, 115, 32, 61, 32, 102, 10, 114, 117, 108, 101, 32, 102, 32, 61, 32, 110, 32, 58, 32, 121, 10, 114, 117, 108, 101, 32, 102, 32, 61, 32, 109, 32, 102, 32, 58, 32, 122, 10, 115, 121, 110, 99, 32, 124, 32, 92, 120, 48, 97, 10, 109, 97, 120, 32, 49, 48, 10]))), (2, (.k (.str [116, 111, 107, 101, 110, 32, 97, 32, 61, 32, 97, 43, 10, 116, 111, 107, 101, 110, 32, 98, 32, 61, 32, 98, 40, 97, 124, 98, 41, 42, 10, 115, 99, 111, 112, 101, 32, 104, 32, 61, 32, 45, 48, 10, 114, 117, 108, 101, 32, 115, 32, 61, 32, 97, 32, 58, 32, 104, 10, 114, 117, 108, 101, 32, 115, 32, 61, 32, 98, 10, 115, 121, 110, 99, 32, 92, 120, 48, 97, 32, 124, 32, 46, 10, 109, 97, 120, 32, 57, 10]))), (3, (.k (.str [116, 111, 107, 101, 110, 32, 113, 32, 61, 32, 92, 120, 50, 50, 91, 94, 92, 120, 50, 50, 92, 120, 48, 97, 93, 42, 92, 120, 50, 50, 10, 116, 111, 107, 101, 110, 32, 99, 32, 61, 32, 58, 10, 116, 111, 107, 101, 110, 32, 108, 32, 61, 32, 92, 120, 55, 98, 10, 116, 111, 107, 101, 110, 32, 114, 32, 61, 32, 92, 120, 55, 100, 10, 116, 111, 107, 101, 110, 32, 107, 32, 61, 32, 44, 10, 116, 114, 105, 118, 105, 97, 32, 119, 32, 61, 32, 92, 120, 50, 48, 10, 115, 99, 111, 112, 101, 32, 107, 101, 121, 32, 61, 32, 48, 46, 53, 10, 115, 99, 111, 112, 101, 32, 111, 98, 106, 32, 61, 32, 50, 10, 114, 117, 108, 101, 32, 111, 32, 61, 32, 108, 32, 114, 32, 58, 32, 111, 98, 106, 10, 114, 117, 108, 101, 32, 111, 32, 61, 32, 108, 32, 109, 32, 114, 32, 58, 32, 111, 98, 106, 10, 114, 117, 108, 101, 32, 109, 32, 61, 32, 112, 10, 114, 117, 108, 101, 32, 109, 32, 61, 32, 109, 32, 107, 32, 112, 10, 114, 117, 108, 101, 32, 112, 32, 61, 32, 121, 32, 99, 32, 118, 10, 114, 117, 108, 101, 32, 121, 32, 61, 32, 113, 32, 58, 32, 107, 101, 121, 10, 114, 117, 108, 101, 32, 118, 32, 61, 32, 113, 10, 114, 117, 108, 101, 32, 118, 32, 61, 32, 111, 10, 115, 121, 110, 99, 32, 92, 120, 48, 97, 32, 124, 32, 91, 97, 45, 122, 93, 10, 109, 97, 120, 32, 50, 52, 10]))), (4, (.k (.str [116, 111, 107, 101, 110, 32, 97, 116, 32, 61, 32, 97, 116, 10, 116, 111, 107, 101, 110, 32, 100, 32, 61, 32, 92, 46, 10, 116, 111, 107, 101, 110, 32, 110, 32, 61, 32, 91, 97, 45, 122, 93, 43, 10, 116, 114, 105, 118, 105, 97, 32, 116, 32, 61, 32, 92, 120, 48, 97, 92, 120, 50, 48, 42, 10, 115, 99, 111, 112, 101, 32, 102, 32, 61, 32, 51, 10, 114, 117, 108, 101, 32, 115, 32, 61, 32, 97, 116, 32, 112, 10, 114, 117, 108, 101, 32, 115, 32, 61, 32, 115, 32, 97, 116, 32, 112, 32, 58, 32, 102, 10, 114, 117, 108, 101, 32, 112, 32, 61, 32, 110, 10, 114, 117, 108, 101, 32, 112, 32, 61, 32, 112, 32, 100, 32, 110, 10, 115, 121, 110, 99, 32, 92, 120, 48, 97, 32, 124, 32, 91, 48, 45, 57, 93, 10, 109, 97, 120, 32, 50, 48, 10])))])), (I 0 (.mv (.t 1)))])
 (.seq (.ops [⟨none, .frz (.sl .no) 0, none⟩]) .ret))), [.tmp 0], true⟩
/-- math.NaN -/
def a103 : AFn := ⟨0, (.seq (.ops [(I 0 (.mv (.k (.flt .f64 0))))])
 (.seq (.ops [(I 1 (.nat 3 [(.k (.int .u64 9221120237041090561))])), (I 0 (.mv (.t 1)))])
 .ret)), [.tmp 0], true⟩
/-- eyot/first.ends -/
def a104 : AFn := ⟨2, (.seq (.ops [(I 2 (.bim 7 (.t 0))), (I 4 (.mv (.k (.list true []))))])
 (.seq (.seq (.ops [(I 12 (.ldi 7 true (.t 2))), (I 13 (.call 109 [(.t 12)])), (I 14 (.un .not (.t 13)))])
 (.cond (.t 14) (.seq (.ops [(I 4 (.mv (.k (.list true []))))])
 (.seq (.ops [⟨none, .frz (.sl (.sl .no)) 4, none⟩]) .ret)) .skip))
 (.seq (.ops [(I 15 (.ldi 7 true (.t 2))), (I 16 (.call 111 [(.t 15)])), (I 5 (.mv (.t 16)))])
 (.seq (.ops [(I 17 (.fa 1 1 false (.t 2))), (I 18 (.ldi 1 false (.t 17))), (I 19 (.len (.t 18))), (I 20 (.mks 1 (.list true []) (.t 19))), (I 6 (.mv (.t 20)))])
 (.seq (.seq (.ops [(I 7 (.mv (.k (.bool true))))])
 (.block 0 (.loop [1, 2, 5, 6, 7] (.seq (.seq (.ops [(I 21 (.mv (.t 7)))])
 (.cond (.t 21) .skip (.exit 0)))
 (.block 1 (.seq (.ops [(I 7 (.mv (.k (.bool false))))])
 (.seq (.ops [(I 22 (.fa 3 1 false (.t 2))), (I 23 (.ldi 1 false (.t 22))), (I 24 (.len (.t 23))), (I 25 (.mv (.k (.int .i64 0))))])
 (.block 2 (.loop [1, 2, 5, 6, 7, 23, 24, 25] (.seq (.ops [(I 26 (.bin .lss (.t 25) (.t 24)))])
 (.seq (.cond (.t 26) .skip (.exit 2))
 (.seq (.block 3 (.seq (.ops [(I 27 (.mv (.t 25))), (I 28 (.ix 3 (.t 23) (.t 25))), (I 29 (.ld 3 true (.t 28))), (I 9 (.alv ([.int .i64 0, .list true [], .int .i64 0]))), (I 8 (.mv (.t 27))),
  ⟨none, .st 3 (.t 9) (.t 29), none⟩])
 (.seq (.ops [(I 30 (.mv (.t 5))), (I 31 (.mv (.t 6))), (I 32 (.mv (.t 1))), (I 33 (.mv (.t 8))), (I 34 (.ix 1 (.t 32) (.t 33))), (I 35 (.ld 1 false (.t 34))), (I 36 (.call 114 [(.t 30), (.t 31), (.t 35)])), (I 10 (.mv (.t 36)))])
 (.seq (.ops [(I 37 (.mv (.t 6))), (I 38 (.fa 0 1 false (.t 9))), (I 39 (.ldp 1 false (.t 38))), (I 40 (.ix 1 (.t 37) (.t 39))), (I 41 (.ld 1 false (.t 40))), (I 42 (.mv (.t 10))), (I 43 (.call 119 [(.t 41), (.t 42)])), (I 11 (.mv (.t 43)))])
 (.seq (.ops [(I 44 (.mv (.t 11))), (I 45 (.len (.t 44))), (I 46 (.mv (.t 6))), (I 47 (.fa 0 1 false (.t 9))), (I 48 (.ldp 1 false (.t 47))), (I 49 (.ix 1 (.t 46) (.t 48))), (I 50 (.ld 1 false (.t 49))), (I 51 (.len (.t 50))), (I 52 (.bin .gtr (.t 45) (.t 51)))])
 (.cond (.t 52) (.ops [(I 53 (.mv (.t 6))), (I 54 (.fa 0 1 false (.t 9))), (I 55 (.ldp 1 false (.t 54))), (I 56 (.mv (.t 11))), (I 57 (.ix 1 (.t 53) (.t 55))),
  ⟨none, .st 1 (.t 57) (.t 56), none⟩, (I 7 (.mv (.k (.bool true))))]) .skip))))))
 (.ops [(I 58 (.bin .add (.t 25) (.k (.int .i64 1)))), (I 25 (.mv (.t 58)))])))))))))))))
 (.seq (.ops [(I 59 (.mv (.t 6))), (I 4 (.mv (.t 59)))])
 (.seq (.ops [⟨none, .frz (.sl (.sl .no)) 4, none⟩]) .ret))))))), [.tmp 4], true⟩
/-- eyot/first.Firsts -/
def a105 : AFn := ⟨1, (.seq (.ops [(I 1 (.bim 7 (.t 0))), (I 2 (.mv (.k (.list true []))))])
 (.seq (.ops [(I 3 (.mv (.k (.list true []))))])
 (.seq (.seq (.ops [(I 6 (.fa 3 1 false (.t 1))), (I 7 (.ldi 1 false (.t 6))), (I 8 (.len (.t 7))), (I 9 (.mv (.k (.int .i64 0))))])
 (.block 0 (.loop [1, 3, 7, 8, 9] (.seq (.ops [(I 10 (.bin .lss (.t 9) (.t 8)))])
 (.seq (.cond (.t 10) .skip (.exit 0))
 (.seq (.block 1 (.seq (.ops [(I 11 (.ix 3 (.t 7) (.t 9))), (I 12 (.ld 3 true (.t 11))), (I 5 (.alv ([.int .i64 0, .list true [], .int .i64 0]))),
  ⟨none, .st 3 (.t 5) (.t 12), none⟩])
 (.ops [(I 13 (.mv (.t 3))), (I 14 (.fa 1 1 false (.t 5))), (I 15 (.ldp 1 false (.t 14))), (I 16 (.mkl (.list true []) 1 [(0, (.t 15))])), (I 17 (.app 1 (.t 13) (.t 16))), (I 3 (.mv (.t 17)))])))
 (.ops [(I 18 (.bin .add (.t 9) (.k (.int .i64 1)))), (I 9 (.mv (.t 18)))])))))))
 (.seq (.ops [(I 19 (.ldi 7 true (.t 1))), (I 20 (.mv (.t 3))), (I 21 (.call 104 [(.t 19), (.t 20)])), (I 2 (.mv (.t 21)))])
 (.seq (.ops [⟨none, .frz (.sl (.sl .no)) 2, none⟩]) .ret))))), [.tmp 2], true⟩
/-- slices.Clone[[]int,int] -/
def a106 : AFn := ⟨1, (.seq (.ops [(I 2 (.mv (.k (.list true []))))])
 (.seq (.seq (.ops [(I 3 (.mv (.t 0))), (I 4 (.eq false .slice (.t 3) (.k (.list true []))))])
 (.cond (.t 4) (.seq (.ops [(I 2 (.mv (.k (.list true []))))])
 .ret) .skip))
 (.seq (.ops [(I 5 (.mkm (.int .i64 0) 0 [])), (I 6 (.mv (.t 0))), (I 7 (.app 1 (.t 5) (.t 6))), (I 2 (.mv (.t 7)))])
 .ret))), [.tmp 2], false⟩
/-- slices.Reverse[[]int,int] -/
def a107 : AFn := ⟨1, (.seq (.ops [(I 4 (.mv (.t 0))), (I 5 (.len (.t 4))), (I 6 (.bin .sub (.t 5) (.k (.int .i64 1)))), (I 2 (.mv (.k (.int .i64 0)))), (I 3 (.mv (.t 6)))])
 (.block 0 (.loop [0, 2, 3] (.seq (.seq (.ops [(I 7 (.mv (.t 2))), (I 8 (.mv (.t 3))), (I 9 (.bin .lss (.t 7) (.t 8)))])
 (.cond (.t 9) .skip (.exit 0)))
 (.seq (.block 1 (.dops [(I 14 (.mv (.t 0))), (I 15 (.mv (.t 2))), (I 16 (.mv (.t 0))), (I 17 (.mv (.t 3))), (I 18 (.mv (.t 0))), (I 19 (.mv (.t 3))), (I 20 (.ix 1 (.t 18) (.t 19))), (I 21 (.ld 1 false (.t 20))), (I 22 (.mv (.t 0))), (I 23 (.mv (.t 2))), (I 24 (.ix 1 (.t 22) (.t 23))), (I 25 (.ld 1 false (.t 24))), (I 26 (.ix 1 (.t 14) (.t 15))),
  ⟨none, .st 1 (.t 26) (.t 21), none⟩, (I 27 (.ix 1 (.t 16) (.t 17))),
  ⟨none, .st 1 (.t 27) (.t 25), none⟩]))
 (.ops [(I 10 (.mv (.t 2))), (I 11 (.bin .add (.t 10) (.k (.int .i64 1)))), (I 12 (.mv (.t 3))), (I 13 (.bin .sub (.t 12) (.k (.int .i64 1)))), (I 2 (.mv (.t 11))), (I 3 (.mv (.t 13)))])))))), [], false⟩
/-- eyot/first.Lasts -/
def a108 : AFn := ⟨1, (.seq (.ops [(I 1 (.bim 7 (.t 0))), (I 2 (.mv (.k (.list true []))))])
 (.seq (.ops [(I 3 (.mv (.k (.list true []))))])
 (.seq (.seq (.ops [(I 7 (.fa 3 1 false (.t 1))), (I 8 (.ldi 1 false (.t 7))), (I 9 (.len (.t 8))), (I 10 (.mv (.k (.int .i64 0))))])
 (.block 0 (.loop [1, 3, 8, 9, 10] (.seq (.ops [(I 11 (.bin .lss (.t 10) (.t 9)))])
 (.seq (.cond (.t 11) .skip (.exit 0))
 (.seq (.block 1 (.seq (.ops [(I 12 (.ix 3 (.t 8) (.t 10))), (I 13 (.ld 3 true (.t 12))), (I 5 (.alv ([.int .i64 0, .list true [], .int .i64 0]))),
  ⟨none, .st 3 (.t 5) (.t 13), none⟩])
 (.seq (.ops [(I 14 (.fa 1 1 false (.t 5))), (I 15 (.ldp 1 false (.t 14))), (I 16 (.call 106 [(.t 15)])), (I 6 (.mv (.t 16)))])
 (.seq (.ops [(I 17 (.mv (.t 6))), (I 18 (.call 107 [(.t 17)]))])
 (.ops [(I 19 (.mv (.t 3))), (I 20 (.mv (.t 6))), (I 21 (.mkl (.list true []) 1 [(0, (.t 20))])), (I 22 (.app 1 (.t 19) (.t 21))), (I 3 (.mv (.t 22)))])))))
 (.ops [(I 23 (.bin .add (.t 10) (.k (.int .i64 1)))), (I 10 (.mv (.t 23)))])))))))
 (.seq (.ops [(I 24 (.ldi 7 true (.t 1))), (I 25 (.mv (.t 3))), (I 26 (.call 104 [(.t 24), (.t 25)])), (I 2 (.mv (.t 26)))])
 (.seq (.ops [⟨none, .frz (.sl (.sl .no)) 2, none⟩]) .ret))))), [.tmp 2], true⟩
/-- eyot/first.may -/
def a109 : AFn := ⟨1, (.seq (.ops [(I 1 (.bim 7 (.t 0))), (I 2 (.mv (.k (.bool false))))])
 (.seq (.ops [(I 6 (.ldi 7 true (.t 1))), (I 7 (.call 122 [(.t 6)])), (I 5 (.mv (.t 7))), (I 8 (.ext 0 (.t 5))), (I 9 (.ext 1 (.t 5))), (I 3 (.mv (.t 8))), (I 4 (.mv (.t 9)))])
 (.seq (.ops [(I 10 (.mv (.t 4))), (I 11 (.bin .eql (.t 10) (.k (.int .i64 0)))), (I 2 (.mv (.t 11)))])
 .ret))), [.tmp 2], true⟩
/-- eyot/first.empty -/
def a110 : AFn := ⟨2, (.seq (.ops [(I 2 (.bob 1 (.t 0))), (I 4 (.mv (.k (.bool false))))])
 (.seq (.ops [(I 5 (.mv (.t 1))), (I 6 (.mkfn 120 [(.t 2)])), (I 7 (.call 121 [(.t 5), (.t 6)])), (I 8 (.un .not (.t 7))), (I 4 (.mv (.t 8)))])
 .ret)), [.tmp 4], true⟩
/-- eyot/first.Nulls -/
def a111 : AFn := ⟨1, (.seq (.ops [(I 1 (.bim 7 (.t 0))), (I 2 (.mv (.k (.list true []))))])
 (.seq (.seq (.ops [(I 7 (.ldi 7 true (.t 1))), (I 8 (.call 109 [(.t 7)])), (I 9 (.un .not (.t 8)))])
 (.cond (.t 9) (.seq (.ops [(I 2 (.mv (.k (.list true []))))])
 (.seq (.ops [⟨none, .frz (.sl .no) 2, none⟩]) .ret)) .skip))
 (.seq (.ops [(I 10 (.fa 1 1 false (.t 1))), (I 11 (.ldi 1 false (.t 10))), (I 12 (.len (.t 11))), (I 13 (.mks 1 (.bool false) (.t 12))), (I 3 (.mv (.t 13)))])
 (.seq (.seq (.ops [(I 4 (.mv (.k (.bool true))))])
 (.block 0 (.loop [1, 3, 4, 29, 30, 31, 32] (.seq (.seq (.ops [(I 14 (.mv (.t 4)))])
 (.cond (.t 14) .skip (.exit 0)))
 (.block 1 (.seq (.ops [(I 4 (.mv (.k (.bool false))))])
 (.seq (.ops [(I 15 (.fa 3 1 false (.t 1))), (I 16 (.ldi 1 false (.t 15))), (I 17 (.len (.t 16))), (I 18 (.mv (.k (.int .i64 0))))])
 (.block 2 (.loop [1, 3, 4, 16, 17, 18, 29, 30, 31, 32] (.seq (.ops [(I 19 (.bin .lss (.t 18) (.t 17)))])
 (.seq (.cond (.t 19) .skip (.exit 2))
 (.seq (.block 3 (.seq (.ops [(I 20 (.ix 3 (.t 16) (.t 18))), (I 21 (.ld 3 true (.t 20))), (I 6 (.alv ([.int .i64 0, .list true [], .int .i64 0]))),
  ⟨none, .st 3 (.t 6) (.t 21), none⟩])
 (.seq (.ops [(I 22 (.mv (.t 3))), (I 23 (.fa 0 1 false (.t 6))), (I 24 (.ldp 1 false (.t 23))), (I 25 (.ix 1 (.t 22) (.t 24))), (I 26 (.ld 1 false (.t 25))), (I 27 (.un .not (.t 26))), (I 28 (.mv (.t 27))),
  ⟨some 29, .mv (.t 3), some (28, true)⟩,
  ⟨some 30, .fa 1 1 false (.t 6), some (28, true)⟩,
  ⟨some 31, .ldp 1 false (.t 30), some (28, true)⟩,
  ⟨some 32, .call 110 [(.t 29), (.t 31)], some (28, true)⟩, (I 33 (.pick (.t 28) (.t 32) (.k (.bool false))))])
 (.cond (.t 33) (.ops [(I 34 (.mv (.t 3))), (I 35 (.fa 0 1 false (.t 6))), (I 36 (.ldp 1 false (.t 35))), (I 37 (.ix 1 (.t 34) (.t 36))),
  ⟨none, .st 1 (.t 37) (.k (.bool true)), none⟩, (I 4 (.mv (.k (.bool true))))]) .skip))))
 (.ops [(I 38 (.bin .add (.t 18) (.k (.int .i64 1)))), (I 18 (.mv (.t 38)))])))))))))))))
 (.seq (.ops [(I 39 (.mv (.t 3))), (I 2 (.mv (.t 39)))])
 (.seq (.ops [⟨none, .frz (.sl .no) 2, none⟩]) .ret)))))), [.tmp 2], true⟩
/-- eyot/first.led -/
def a112 : AFn := ⟨1, (.seq (.ops [(I 1 (.bim 7 (.t 0))), (I 2 (.mv (.k (.list true []))))])
 (.seq (.ops [(I 9 (.fa 1 1 false (.t 1))), (I 10 (.ldi 1 false (.t 9))), (I 11 (.len (.t 10))), (I 12 (.mks 1 (.bool false) (.t 11))), (I 3 (.mv (.t 12)))])
 (.seq (.seq (.ops [(I 13 (.mv (.t 3))), (I 14 (.len (.t 13))), (I 15 (.bin .gtr (.t 14) (.k (.int .i64 0))))])
 (.cond (.t 15) (.ops [(I 16 (.mv (.t 3))), (I 17 (.ix 1 (.t 16) (.k (.int .i64 0)))),
  ⟨none, .st 1 (.t 17) (.k (.bool true)), none⟩]) .skip))
 (.seq (.seq (.ops [(I 4 (.mv (.k (.bool true))))])
 (.block 0 (.loop [1, 3, 4, 39, 40, 43, 44, 45, 46, 47] (.seq (.seq (.ops [(I 18 (.mv (.t 4)))])
 (.cond (.t 18) .skip (.exit 0)))
 (.block 1 (.seq (.ops [(I 4 (.mv (.k (.bool false))))])
 (.seq (.ops [(I 19 (.fa 3 1 false (.t 1))), (I 20 (.ldi 1 false (.t 19))), (I 21 (.len (.t 20))), (I 22 (.mv (.k (.int .i64 0))))])
 (.block 2 (.loop [1, 3, 4, 20, 21, 22, 39, 40, 43, 44, 45, 46, 47] (.seq (.ops [(I 23 (.bin .lss (.t 22) (.t 21)))])
 (.seq (.cond (.t 23) .skip (.exit 2))
 (.seq (.block 3 (.seq (.ops [(I 24 (.ix 3 (.t 20) (.t 22))), (I 25 (.ld 3 true (.t 24))), (I 6 (.alv ([.int .i64 0, .list true [], .int .i64 0]))),
  ⟨none, .st 3 (.t 6) (.t 25), none⟩])
 (.seq (.ops [(I 26 (.fa 1 1 false (.t 6))), (I 27 (.ldp 1 false (.t 26))), (I 28 (.len (.t 27))), (I 29 (.mv (.k (.int .i64 0))))])
 (.block 4 (.loop [1, 3, 4, 6, 20, 21, 22, 27, 28, 29, 39, 40, 43, 44, 45, 46, 47] (.seq (.ops [(I 30 (.bin .lss (.t 29) (.t 28)))])
 (.seq (.cond (.t 30) .skip (.exit 4))
 (.seq (.block 5 (.seq (.ops [(I 31 (.ix 1 (.t 27) (.t 29))), (I 32 (.ld 1 false (.t 31))), (I 8 (.mv (.t 32)))])
 (.seq (.ops [(I 33 (.mv (.t 3))), (I 34 (.fa 0 1 false (.t 6))), (I 35 (.ldp 1 false (.t 34))), (I 36 (.ix 1 (.t 33) (.t 35))), (I 37 (.ld 1 false (.t 36))), (I 38 (.mv (.t 37))),
  ⟨some 39, .mv (.t 8), some (38, true)⟩,
  ⟨some 40, .bin .geq (.t 39) (.k (.int .i64 0)), some (38, true)⟩, (I 41 (.pick (.t 38) (.t 40) (.k (.bool false)))), (I 42 (.mv (.t 41))),
  ⟨some 43, .mv (.t 3), some (42, true)⟩,
  ⟨some 44, .mv (.t 8), some (42, true)⟩,
  ⟨some 45, .ix 1 (.t 43) (.t 44), some (42, true)⟩,
  ⟨some 46, .ld 1 false (.t 45), some (42, true)⟩,
  ⟨some 47, .un .not (.t 46), some (42, true)⟩, (I 48 (.pick (.t 42) (.t 47) (.k (.bool false))))])
 (.cond (.t 48) (.ops [(I 49 (.mv (.t 3))), (I 50 (.mv (.t 8))), (I 51 (.ix 1 (.t 49) (.t 50))),
  ⟨none, .st 1 (.t 51) (.k (.bool true)), none⟩, (I 4 (.mv (.k (.bool true))))]) .skip))))
 (.ops [(I 52 (.bin .add (.t 29) (.k (.int .i64 1)))), (I 29 (.mv (.t 52)))])))))))))
 (.ops [(I 53 (.bin .add (.t 22) (.k (.int .i64 1)))), (I 22 (.mv (.t 53)))])))))))))))))
 (.seq (.ops [(I 54 (.mv (.t 3))), (I 2 (.mv (.t 54)))])
 (.seq (.ops [⟨none, .frz (.sl .no) 2, none⟩]) .ret)))))), [.tmp 2], true⟩
/-- eyot/first.of -/
def a113 : AFn := ⟨2, (.seq (.ops [(I 4 (.mv (.k (.list true []))))])
 (.seq (.seq (.ops [(I 5 (.mv (.t 1))), (I 6 (.bin .lss (.t 5) (.k (.int .i64 0))))])
 (.cond (.t 6) (.seq (.ops [(I 7 (.mv (.t 1))), (I 8 (.bin .sub (.k (.int .i64 (-1))) (.t 7))), (I 9 (.mkl (.int .i64 0) 1 [(0, (.t 8))])), (I 4 (.mv (.t 9)))])
 (.seq (.ops [⟨none, .frz (.sl .no) 4, none⟩]) .ret)) .skip))
 (.seq (.ops [(I 10 (.mv (.t 0))), (I 11 (.mv (.t 1))), (I 12 (.ix 1 (.t 10) (.t 11))), (I 13 (.ld 1 false (.t 12))), (I 4 (.mv (.t 13)))])
 (.seq (.ops [⟨none, .frz (.sl .no) 4, none⟩]) .ret)))), [.tmp 4], true⟩
/-- eyot/first.reach -/
def a114 : AFn := ⟨3, (.seq (.ops [(I 6 (.mv (.k (.list true []))))])
 (.seq (.ops [(I 7 (.mv (.k (.list true []))))])
 (.seq (.seq (.ops [(I 10 (.mv (.t 2))), (I 11 (.len (.t 10))), (I 12 (.mv (.k (.int .i64 0))))])
 (.block 0 (.loop [0, 1, 7, 10, 11, 12, 24, 25, 26, 27, 28] (.seq (.ops [(I 13 (.bin .lss (.t 12) (.t 11)))])
 (.seq (.cond (.t 13) .skip (.exit 0))
 (.seq (.block 1 (.seq (.ops [(I 14 (.ix 1 (.t 10) (.t 12))), (I 15 (.ld 1 false (.t 14))), (I 9 (.mv (.t 15)))])
 (.seq (.ops [(I 16 (.mv (.t 7))), (I 17 (.mv (.t 1))), (I 18 (.mv (.t 9))), (I 19 (.call 113 [(.t 17), (.t 18)])), (I 20 (.call 119 [(.t 16), (.t 19)])), (I 7 (.mv (.t 20)))])
 (.seq (.ops [(I 21 (.mv (.t 9))), (I 22 (.bin .lss (.t 21) (.k (.int .i64 0)))), (I 23 (.mv (.t 22))),
  ⟨some 24, .mv (.t 0), some (23, false)⟩,
  ⟨some 25, .mv (.t 9), some (23, false)⟩,
  ⟨some 26, .ix 1 (.t 24) (.t 25), some (23, false)⟩,
  ⟨some 27, .ld 1 false (.t 26), some (23, false)⟩,
  ⟨some 28, .un .not (.t 27), some (23, false)⟩, (I 29 (.pick (.t 23) (.k (.bool true)) (.t 28)))])
 (.cond (.t 29) (.exit 0) .skip)))))
 (.ops [(I 30 (.bin .add (.t 12) (.k (.int .i64 1)))), (I 12 (.mv (.t 30)))])))))))
 (.seq (.ops [(I 31 (.mv (.t 7))), (I 6 (.mv (.t 31)))])
 (.seq (.ops [⟨none, .frz (.sl .no) 6, none⟩]) .ret))))), [.tmp 6], true⟩
/-- slices.SortFunc[[][2]int,[2]int] -/
def a115 : AFn := ⟨2, (.seq (.ops [(I 5 (.mv (.t 0))), (I 6 (.len (.t 5))), (I 4 (.mv (.t 6)))])
 (.ops [(I 7 (.mv (.t 0))), (I 8 (.mv (.t 4))), (I 9 (.mv (.t 4))), (I 10 (.cvi .u64 (.t 9))), (I 11 (.call 32 [(.t 10)])), (I 12 (.mv (.t 1))), (I 13 (.call 174 [(.t 7), (.k (.int .i64 0)), (.t 8), (.t 11), (.t 12)]))])), [], false⟩
/-- eyot/first.before -/
def a116 : AFn := ⟨2, (.seq (.ops [(I 2 (.bim 2 (.t 0))), (I 3 (.bim 2 (.t 1))), (I 4 (.mv (.k (.int .i64 0))))])
 (.seq (.seq (.ops [(I 5 (.ia 2 1 false (.t 2) (.k (.int .i64 0)))), (I 6 (.ldi 1 false (.t 5))), (I 7 (.ia 2 1 false (.t 3) (.k (.int .i64 0)))), (I 8 (.ldi 1 false (.t 7))), (I 9 (.bin .neq (.t 6) (.t 8)))])
 (.cond (.t 9) (.seq (.ops [(I 10 (.ia 2 1 false (.t 2) (.k (.int .i64 0)))), (I 11 (.ldi 1 false (.t 10))), (I 12 (.ia 2 1 false (.t 3) (.k (.int .i64 0)))), (I 13 (.ldi 1 false (.t 12))), (I 14 (.bin .sub (.t 11) (.t 13))), (I 4 (.mv (.t 14)))])
 .ret) .skip))
 (.seq (.ops [(I 15 (.ia 2 1 false (.t 2) (.k (.int .i64 1)))), (I 16 (.ldi 1 false (.t 15))), (I 17 (.ia 2 1 false (.t 3) (.k (.int .i64 1)))), (I 18 (.ldi 1 false (.t 17))), (I 19 (.bin .sub (.t 16) (.t 18))), (I 4 (.mv (.t 19)))])
 .ret))), [.tmp 4], true⟩
/-- slices.Compact[[][2]int,[2]int] -/
def a117 : AFn := ⟨1, (.seq (.ops [(I 2 (.mv (.k (.list true []))))])
 (.seq (.seq (.ops [(I 6 (.mv (.t 0))), (I 7 (.len (.t 6))), (I 8 (.bin .lss (.t 7) (.k (.int .i64 2))))])
 (.cond (.t 8) (.seq (.ops [(I 9 (.mv (.t 0))), (I 2 (.mv (.t 9)))])
 .ret) .skip))
 (.seq (.seq (.ops [(I 3 (.mv (.k (.int .i64 1))))])
 (.block 0 (.loop [0, 3] (.seq (.seq (.ops [(I 10 (.mv (.t 3))), (I 11 (.mv (.t 0))), (I 12 (.len (.t 11))), (I 13 (.bin .lss (.t 10) (.t 12)))])
 (.cond (.t 13) .skip (.exit 0)))
 (.seq (.block 1 (.seq (.dops [(I 16 (.mv (.t 0))), (I 17 (.mv (.t 3))), (I 18 (.ix 2 (.t 16) (.t 17))), (I 19 (.ld 2 true (.t 18))), (I 20 (.mv (.t 0))), (I 21 (.mv (.t 3))), (I 22 (.bin .sub (.t 21) (.k (.int .i64 1)))), (I 23 (.ix 2 (.t 20) (.t 22))), (I 24 (.ld 2 true (.t 23))), (I 25 (.eq false (.agg [.i, .i]) (.t 19) (.t 24)))])
 (.cond (.t 25) (.seq (.ops [(I 26 (.mv (.t 0))), (I 27 (.mv (.t 3))), (I 28 (.sl 2 (.t 26) (some (.t 27)) none none)), (I 4 (.mv (.t 28)))])
 (.seq (.seq (.ops [(I 5 (.mv (.k (.int .i64 1))))])
 (.block 2 (.loop [0, 3, 4, 5] (.seq (.seq (.ops [(I 29 (.mv (.t 5))), (I 30 (.mv (.t 4))), (I 31 (.len (.t 30))), (I 32 (.bin .lss (.t 29) (.t 31)))])
 (.cond (.t 32) .skip (.exit 2)))
 (.seq (.block 3 (.seq (.dops [(I 35 (.mv (.t 4))), (I 36 (.mv (.t 5))), (I 37 (.ix 2 (.t 35) (.t 36))), (I 38 (.ld 2 true (.t 37))), (I 39 (.mv (.t 4))), (I 40 (.mv (.t 5))), (I 41 (.bin .sub (.t 40) (.k (.int .i64 1)))), (I 42 (.ix 2 (.t 39) (.t 41))), (I 43 (.ld 2 true (.t 42))), (I 44 (.eq true (.agg [.i, .i]) (.t 38) (.t 43)))])
 (.cond (.t 44) (.seq (.ops [(I 45 (.mv (.t 0))), (I 46 (.mv (.t 3))), (I 47 (.mv (.t 4))), (I 48 (.mv (.t 5))), (I 49 (.ix 2 (.t 47) (.t 48))), (I 50 (.ld 2 true (.t 49))), (I 51 (.ix 2 (.t 45) (.t 46))),
  ⟨none, .st 2 (.t 51) (.t 50), none⟩])
 (.ops [(I 52 (.mv (.t 3))), (I 53 (.bin .add (.t 52) (.k (.int .i64 1)))), (I 3 (.mv (.t 53)))])) .skip)))
 (.ops [(I 33 (.mv (.t 5))), (I 34 (.bin .add (.t 33) (.k (.int .i64 1)))), (I 5 (.mv (.t 34)))]))))))
 (.seq (.ops [(I 54 (.mv (.t 0))), (I 55 (.mv (.t 3))), (I 56 (.sl 2 (.t 54) (some (.t 55)) none none)),
  ⟨none, .clr 2 (.agg ([.int .i64 0, .int .i64 0])) (.t 56), none⟩])
 (.seq (.ops [(I 57 (.mv (.t 0))), (I 58 (.mv (.t 3))), (I 59 (.sl 2 (.t 57) none (some (.t 58)) none)), (I 2 (.mv (.t 59)))])
 .ret)))) .skip)))
 (.ops [(I 14 (.mv (.t 3))), (I 15 (.bin .add (.t 14) (.k (.int .i64 1)))), (I 3 (.mv (.t 15)))]))))))
 (.seq (.ops [(I 60 (.mv (.t 0))), (I 2 (.mv (.t 60)))])
 .ret)))), [.tmp 2], false⟩
/-- eyot/first.Pairs -/
def a118 : AFn := ⟨1, (.seq (.ops [(I 1 (.bim 7 (.t 0))), (I 2 (.mv (.k (.list true []))))])
 (.seq (.seq (.ops [(I 16 (.ldi 7 true (.t 1))), (I 17 (.call 109 [(.t 16)])), (I 18 (.un .not (.t 17)))])
 (.cond (.t 18) (.seq (.ops [(I 2 (.mv (.k (.list true []))))])
 (.seq (.ops [⟨none, .frz (.sl .no) 2, none⟩]) .ret)) .skip))
 (.seq (.dops [(I 19 (.ldi 7 true (.t 1))), (I 20 (.call 111 [(.t 19)])), (I 21 (.ldi 7 true (.t 1))), (I 22 (.call 105 [(.t 21)])), (I 23 (.ldi 7 true (.t 1))), (I 24 (.call 108 [(.t 23)])), (I 25 (.ldi 7 true (.t 1))), (I 26 (.call 112 [(.t 25)])), (I 3 (.mv (.t 20))), (I 4 (.mv (.t 22))), (I 5 (.mv (.t 24))), (I 6 (.mv (.t 26)))])
 (.seq (.ops [(I 7 (.mv (.k (.list true []))))])
 (.seq (.seq (.ops [(I 27 (.fa 3 1 false (.t 1))), (I 28 (.ldi 1 false (.t 27))), (I 29 (.len (.t 28))), (I 30 (.mv (.k (.int .i64 0))))])
 (.block 0 (.loop [3, 4, 5, 6, 7, 28, 29, 30] (.seq (.ops [(I 31 (.bin .lss (.t 30) (.t 29)))])
 (.seq (.cond (.t 31) .skip (.exit 0))
 (.seq (.block 1 (.seq (.ops [(I 32 (.ix 3 (.t 28) (.t 30))), (I 33 (.ld 3 true (.t 32))), (I 9 (.alv ([.int .i64 0, .list true [], .int .i64 0]))),
  ⟨none, .st 3 (.t 9) (.t 33), none⟩])
 (.seq (.ops [(I 34 (.fa 1 1 false (.t 9))), (I 35 (.ldp 1 false (.t 34))), (I 36 (.len (.t 35))), (I 37 (.mv (.k (.int .i64 0))))])
 (.block 2 (.loop [3, 4, 5, 6, 7, 9, 28, 29, 30, 35, 36, 37] (.seq (.ops [(I 38 (.bin .lss (.t 37) (.t 36)))])
 (.seq (.cond (.t 38) .skip (.exit 2))
 (.seq (.block 3 (.seq (.ops [(I 39 (.mv (.t 37))), (I 40 (.ix 1 (.t 35) (.t 37))), (I 41 (.ld 1 false (.t 40))), (I 10 (.mv (.t 39))), (I 11 (.mv (.t 41)))])
 (.seq (.ops [(I 42 (.mv (.t 5))), (I 43 (.mv (.t 11))), (I 44 (.call 113 [(.t 42), (.t 43)])), (I 45 (.len (.t 44))), (I 46 (.mv (.k (.int .i64 0))))])
 (.block 4 (.loop [3, 4, 5, 6, 7, 9, 10, 28, 29, 30, 35, 36, 37, 44, 45, 46] (.seq (.ops [(I 47 (.bin .lss (.t 46) (.t 45)))])
 (.seq (.cond (.t 47) .skip (.exit 4))
 (.seq (.block 5 (.seq (.ops [(I 48 (.ix 1 (.t 44) (.t 46))), (I 49 (.ld 1 false (.t 48))), (I 13 (.mv (.t 49)))])
 (.seq (.ops [(I 50 (.mv (.t 3))), (I 51 (.mv (.t 4))), (I 52 (.fa 1 1 false (.t 9))), (I 53 (.ldp 1 false (.t 52))), (I 54 (.mv (.t 10))), (I 55 (.bin .add (.t 54) (.k (.int .i64 1)))), (I 56 (.sl 1 (.t 53) (some (.t 55)) none none)), (I 57 (.call 114 [(.t 50), (.t 51), (.t 56)])), (I 58 (.len (.t 57))), (I 59 (.mv (.k (.int .i64 0))))])
 (.block 6 (.loop [3, 4, 5, 6, 7, 9, 10, 13, 28, 29, 30, 35, 36, 37, 44, 45, 46, 57, 58, 59] (.seq (.ops [(I 60 (.bin .lss (.t 59) (.t 58)))])
 (.seq (.cond (.t 60) .skip (.exit 6))
 (.seq (.block 7 (.seq (.ops [(I 61 (.ix 1 (.t 57) (.t 59))), (I 62 (.ld 1 false (.t 61))), (I 15 (.mv (.t 62)))])
 (.seq (.ops [(I 63 (.mv (.t 6))), (I 64 (.fa 0 1 false (.t 9))), (I 65 (.ldp 1 false (.t 64))), (I 66 (.ix 1 (.t 63) (.t 65))), (I 67 (.ld 1 false (.t 66)))])
 (.cond (.t 67) (.ops [(I 68 (.mv (.t 7))), (I 69 (.mv (.t 13))), (I 70 (.mv (.t 15))), (I 71 (.bld (.agg ([.int .i64 0, .int .i64 0])) [((0, 1), (.t 69)), ((1, 1), (.t 70))])), (I 72 (.mkl (.agg ([.int .i64 0, .int .i64 0])) 1 [(0, (.t 71))])), (I 73 (.app 2 (.t 68) (.t 72))), (I 7 (.mv (.t 73)))]) .skip))))
 (.ops [(I 74 (.bin .add (.t 59) (.k (.int .i64 1)))), (I 59 (.mv (.t 74)))])))))))))
 (.ops [(I 75 (.bin .add (.t 46) (.k (.int .i64 1)))), (I 46 (.mv (.t 75)))])))))))))
 (.ops [(I 76 (.bin .add (.t 37) (.k (.int .i64 1)))), (I 37 (.mv (.t 76)))])))))))))
 (.ops [(I 77 (.bin .add (.t 30) (.k (.int .i64 1)))), (I 30 (.mv (.t 77)))])))))))
 (.seq (.ops [(I 78 (.mv (.t 7))), (I 79 (.call 115 [(.t 78), (.k (.fn 116 []))]))])
 (.seq (.ops [(I 80 (.mv (.t 7))), (I 81 (.call 117 [(.t 80)])), (I 2 (.mv (.t 81)))])
 (.seq (.ops [⟨none, .frz (.sl .no) 2, none⟩]) .ret)))))))), [.tmp 2], true⟩
/-- eyot/first.also -/
def a119 : AFn := ⟨2, (.seq (.ops [(I 4 (.mv (.k (.list true []))))])
 (.seq (.ops [(I 6 (.mv (.t 0))), (I 7 (.mv (.t 1))), (I 8 (.mkl (.list true []) 2 [(0, (.t 6)), (1, (.t 7))])), (I 9 (.call 25 [(.t 8)])), (I 5 (.mv (.t 9)))])
 (.seq (.ops [(I 10 (.mv (.t 5))), (I 11 (.call 26 [(.t 10)]))])
 (.seq (.ops [(I 12 (.mv (.t 5))), (I 13 (.call 27 [(.t 12)])), (I 4 (.mv (.t 13)))])
 (.seq (.ops [⟨none, .frz (.sl .no) 4, none⟩]) .ret))))), [.tmp 4], true⟩
/-- eyot/first.empty$1 -/
def a120 : AFn := ⟨2, (.seq (.ops [(I 3 (.mv (.k (.bool false))))])
 (.seq (.ops [(I 4 (.mv (.t 0))), (I 5 (.bin .lss (.t 4) (.k (.int .i64 0)))), (I 6 (.mv (.t 5))),
  ⟨some 7, .ld 1 false (.t 1), some (6, false)⟩,
  ⟨some 8, .mv (.t 0), some (6, false)⟩,
  ⟨some 9, .ix 1 (.t 7) (.t 8), some (6, false)⟩,
  ⟨some 10, .ld 1 false (.t 9), some (6, false)⟩,
  ⟨some 11, .un .not (.t 10), some (6, false)⟩, (I 12 (.pick (.t 6) (.k (.bool true)) (.t 11))), (I 3 (.mv (.t 12)))])
 .ret)), [.tmp 3], true⟩
/-- slices.ContainsFunc[[]int,int] -/
def a121 : AFn := ⟨2, (.seq (.ops [(I 4 (.mv (.k (.bool false))))])
 (.seq (.ops [(I 5 (.mv (.t 0))), (I 6 (.mv (.t 1))), (I 7 (.call 171 [(.t 5), (.t 6)])), (I 8 (.bin .geq (.t 7) (.k (.int .i64 0)))), (I 4 (.mv (.t 8)))])
 .ret)), [.tmp 4], true⟩
/-- eyot/gram.May -/
def a122 : AFn := ⟨1, (.seq (.ops [(I 1 (.bim 7 (.t 0))), (I 2 (.aob ([.int .i64 0]))), (I 3 (.aob ([.int .i64 0])))])
 (.dfr 4 208 [(.t 2), (.t 3)] 5 (.seq (.ops [(I 5 (.ldi 7 true (.t 1))), (I 6 (.call 183 [(.t 5)]))])
 (.seq (.ops [(I 7 (.ldi 7 true (.t 1))), (I 8 (.call 139 [(.t 7)]))])
 (.seq (.ops [(I 9 (.ldi 7 true (.t 1))), (I 10 (.call 131 [(.t 9)]))])
 (.seq (.ops [(I 11 (.ldi 7 true (.t 1))), (I 12 (.call 136 [(.t 11)]))])
 (.seq (.ops [(I 13 (.ldi 7 true (.t 1))), (I 14 (.call 135 [(.t 13)]))])
 (.seq (.ops [(I 15 (.ldi 7 true (.t 1))), (I 16 (.call 138 [(.t 15)]))])
 (.seq (.ops [(I 17 (.fa 6 1 false (.t 1))), (I 18 (.ldi 1 false (.t 17))), (I 19 (.bin .geq (.t 18) (.k (.int .i64 1)))), (I 20 (.mv (.t 19))),
  ⟨some 21, .fa 6 1 false (.t 1), some (20, true)⟩,
  ⟨some 22, .ldi 1 false (.t 21), some (20, true)⟩,
  ⟨some 23, .bin .leq (.t 22) (.k (.int .i64 60)), some (20, true)⟩, (I 24 (.pick (.t 20) (.t 23) (.k (.bool false)))), (I 25 (.call 130 [(.t 24), (.k (.int .i64 0))]))])
 (.seq (.ops [(I 26 (.fa 0 1 false (.t 1))), (I 27 (.ldi 1 false (.t 26))), (I 28 (.call 170 [(.t 27), (.k (.fn 124 []))])), (I 29 (.call 130 [(.t 28), (.k (.int .i64 0))]))])
 (.seq (.ops [⟨none, .st 1 (.t 2) (.k (.int .i64 0)), none⟩,
  ⟨none, .st 1 (.t 3) (.k (.int .i64 0)), none⟩])
 .ret)))))))))
 (.seq (.ops [(I 6 (.tas 7 (.agg ([.int .i64 0])) true (.t 5))), (I 4 (.mv (.t 6))), (I 7 (.ext 0 (.t 4))), (I 8 (.ext 1 (.t 4))), (I 2 (.alv ([.int .i64 0]))),
  ⟨none, .st 1 (.t 2) (.t 7), none⟩, (I 3 (.mv (.t 8)))])
 (.seq (.ops [(I 9 (.mv (.t 3)))])
 (.cond (.t 9) (.ops [(I 10 (.fa 0 1 false (.t 2))), (I 11 (.ldp 1 false (.t 10))),
  ⟨none, .st 1 (.t 0) (.t 11), none⟩,
  ⟨none, .st 1 (.t 1) (.k (.int .i64 5)), none⟩]) .skip))))), [.cell 2 1 false, .cell 3 1 false], true⟩
/-- eyot/gram.Left -/
def a123 : AFn := ⟨2, (.seq (.ops [(I 2 (.bim 7 (.t 0))), (I 4 (.mv (.k (.int .i64 0))))])
 (.seq (.ops [(I 5 (.fa 1 1 false (.t 2))), (I 6 (.ldi 1 false (.t 5))), (I 7 (.mv (.t 1))), (I 8 (.call 55 [(.t 6), (.t 7)])), (I 4 (.mv (.t 8)))])
 .ret)), [.tmp 4], true⟩
/-- eyot/gram.May$2 -/
def a124 : AFn := ⟨1, (.seq (.ops [(I 1 (.bim 8 (.t 0))), (I 2 (.mv (.k (.bool false))))])
 (.seq (.ops [(I 3 (.fa 7 1 false (.t 1))), (I 4 (.ldi 1 false (.t 3))), (I 5 (.un .not (.t 4))), (I 2 (.mv (.t 5)))])
 .ret)), [.tmp 2], true⟩
/-- eyot/gram.Name -/
def a125 : AFn := ⟨1, (.seq (.ops [(I 2 (.mv (.k (.bool false))))])
 (.seq (.seq (.ops [(I 5 (.mv (.t 0))), (I 6 (.lns (.t 5))), (I 7 (.bin .lss (.t 6) (.k (.int .i64 1)))), (I 8 (.mv (.t 7))),
  ⟨some 9, .mv (.t 0), some (8, false)⟩,
  ⟨some 10, .lns (.t 9), some (8, false)⟩,
  ⟨some 11, .bin .gtr (.t 10) (.k (.int .i64 12)), some (8, false)⟩, (I 12 (.pick (.t 8) (.k (.bool true)) (.t 11))), (I 13 (.mv (.t 12))),
  ⟨some 14, .mv (.t 0), some (13, false)⟩,
  ⟨some 15, .ixs (.t 14) (.k (.int .i64 0)), some (13, false)⟩,
  ⟨some 16, .bin .lss (.t 15) (.k (.int .u8 97)), some (13, false)⟩, (I 17 (.pick (.t 13) (.k (.bool true)) (.t 16)))])
 (.cond (.t 17) (.seq (.ops [(I 2 (.mv (.k (.bool false))))])
 .ret) .skip))
 (.seq (.seq (.ops [(I 18 (.mv (.t 0))), (I 19 (.lns (.t 18))), (I 20 (.mv (.k (.int .i64 0))))])
 (.block 0 (.loop [0, 19, 20, 29, 30, 33, 34, 35, 36, 37, 38, 41, 42, 49, 50, 51] (.seq (.ops [(I 21 (.bin .lss (.t 20) (.t 19)))])
 (.seq (.cond (.t 21) .skip (.exit 0))
 (.seq (.block 1 (.seq (.ops [(I 22 (.mv (.t 20))), (I 3 (.mv (.t 22)))])
 (.seq (.ops [(I 23 (.mv (.t 0))), (I 24 (.mv (.t 3))), (I 25 (.ixs (.t 23) (.t 24))), (I 4 (.mv (.t 25)))])
 (.seq (.ops [(I 26 (.mv (.t 4))), (I 27 (.bin .lss (.t 26) (.k (.int .u8 97)))), (I 28 (.mv (.t 27))),
  ⟨some 29, .mv (.t 4), some (28, false)⟩,
  ⟨some 30, .bin .gtr (.t 29) (.k (.int .u8 122)), some (28, false)⟩, (I 31 (.pick (.t 28) (.k (.bool true)) (.t 30))), (I 32 (.mv (.t 31))),
  ⟨some 33, .mv (.t 4), some (32, true)⟩,
  ⟨some 34, .bin .lss (.t 33) (.k (.int .u8 48)), some (32, true)⟩,
  ⟨some 35, .mv (.t 34), some (32, true)⟩,
  ⟨some 36, .mv (.t 4), some (35, false)⟩,
  ⟨some 37, .bin .gtr (.t 36) (.k (.int .u8 57)), some (35, false)⟩,
  ⟨some 38, .pick (.t 35) (.k (.bool true)) (.t 37), some (32, true)⟩, (I 39 (.pick (.t 32) (.t 38) (.k (.bool false)))), (I 40 (.mv (.t 39))),
  ⟨some 41, .mv (.t 4), some (40, true)⟩,
  ⟨some 42, .bin .neq (.t 41) (.k (.int .u8 95)), some (40, true)⟩, (I 43 (.pick (.t 40) (.t 42) (.k (.bool false))))])
 (.cond (.t 43) (.seq (.ops [(I 2 (.mv (.k (.bool false))))])
 .ret) .skip)))))
 (.ops [(I 44 (.bin .add (.t 20) (.k (.int .i64 1)))), (I 20 (.mv (.t 44)))])))))))
 (.seq (.ops [(I 45 (.mv (.t 0))), (I 46 (.ixs (.t 45) (.k (.int .i64 0)))), (I 47 (.bin .leq (.t 46) (.k (.int .u8 122)))), (I 48 (.mv (.t 47))),
  ⟨some 49, .mv (.t 0), some (48, true)⟩,
  ⟨some 50, .ixs (.t 49) (.k (.int .i64 0)), some (48, true)⟩,
  ⟨some 51, .bin .neq (.t 50) (.k (.int .u8 95)), some (48, true)⟩, (I 52 (.pick (.t 48) (.t 51) (.k (.bool false)))), (I 2 (.mv (.t 52)))])
 .ret)))), [.tmp 2], true⟩
/-- eyot/gram.Scope$1 -/
def a126 : AFn := ⟨2, (.seq (.ops [(I 2 (.bim 2 (.t 0))), (I 3 (.mv (.k (.bool false))))])
 (.seq (.ops [(I 4 (.fa 0 1 false (.t 2))), (I 5 (.ldi 1 false (.t 4))), (I 6 (.ld 1 false (.t 1))), (I 7 (.bin .eql (.t 5) (.t 6))), (I 3 (.mv (.t 7)))])
 .ret)), [.tmp 3], true⟩
/-- slices.IndexFunc[[]eyot/api.Scope,eyot/api.Scope] -/
def a127 : AFn := ⟨2, (.seq (.ops [(I 4 (.mv (.k (.int .i64 0))))])
 (.seq (.seq (.ops [(I 6 (.mv (.t 0))), (I 7 (.len (.t 6))), (I 8 (.mv (.k (.int .i64 0))))])
 (.block 0 (.loop [0, 1, 7, 8] (.seq (.ops [(I 9 (.bin .lss (.t 8) (.t 7)))])
 (.seq (.cond (.t 9) .skip (.exit 0))
 (.seq (.block 1 (.seq (.ops [(I 10 (.mv (.t 8))), (I 5 (.mv (.t 10)))])
 (.seq (.ops [(I 11 (.mv (.t 1))), (I 12 (.mv (.t 0))), (I 13 (.mv (.t 5))), (I 14 (.ix 2 (.t 12) (.t 13))), (I 15 (.ld 2 true (.t 14))), (I 16 (.callv (.t 11) [(.t 15)]))])
 (.cond (.t 16) (.seq (.ops [(I 17 (.mv (.t 5))), (I 4 (.mv (.t 17)))])
 .ret) .skip))))
 (.ops [(I 18 (.bin .add (.t 8) (.k (.int .i64 1)))), (I 8 (.mv (.t 18)))])))))))
 (.seq (.ops [(I 4 (.mv (.k (.int .i64 (-1)))))])
 .ret))), [.tmp 4], true⟩
/-- eyot/gram.Token$1 -/
def a128 : AFn := ⟨2, (.seq (.ops [(I 2 (.bim 8 (.t 0))), (I 3 (.mv (.k (.bool false))))])
 (.seq (.ops [(I 4 (.fa 0 1 false (.t 2))), (I 5 (.ldi 1 false (.t 4))), (I 6 (.ld 1 false (.t 1))), (I 7 (.bin .eql (.t 5) (.t 6))), (I 3 (.mv (.t 7)))])
 .ret)), [.tmp 3], true⟩
/-- slices.IndexFunc[[]eyot/api.Token,eyot/api.Token] -/
def a129 : AFn := ⟨2, (.seq (.ops [(I 4 (.mv (.k (.int .i64 0))))])
 (.seq (.seq (.ops [(I 6 (.mv (.t 0))), (I 7 (.len (.t 6))), (I 8 (.mv (.k (.int .i64 0))))])
 (.block 0 (.loop [0, 1, 7, 8] (.seq (.ops [(I 9 (.bin .lss (.t 8) (.t 7)))])
 (.seq (.cond (.t 9) .skip (.exit 0))
 (.seq (.block 1 (.seq (.ops [(I 10 (.mv (.t 8))), (I 5 (.mv (.t 10)))])
 (.seq (.ops [(I 11 (.mv (.t 1))), (I 12 (.mv (.t 0))), (I 13 (.mv (.t 5))), (I 14 (.ix 8 (.t 12) (.t 13))), (I 15 (.ld 8 true (.t 14))), (I 16 (.callv (.t 11) [(.t 15)]))])
 (.cond (.t 16) (.seq (.ops [(I 17 (.mv (.t 5))), (I 4 (.mv (.t 17)))])
 .ret) .skip))))
 (.ops [(I 18 (.bin .add (.t 8) (.k (.int .i64 1)))), (I 8 (.mv (.t 18)))])))))))
 (.seq (.ops [(I 4 (.mv (.k (.int .i64 (-1)))))])
 .ret))), [.tmp 4], true⟩
/-- eyot/gram.must -/
def a130 : AFn := ⟨2, (.seq (.ops [(I 4 (.mv (.t 0))), (I 5 (.un .not (.t 4)))])
 (.cond (.t 5) (.ops [(I 6 (.mv (.t 1))), (I 7 (.bld (.agg ([.int .i64 0])) [((0, 1), (.t 6))])), (I 8 (.mkif 7 (.t 7))),
  ⟨none, .pan (.t 8), none⟩]) .skip)), [], true⟩
/-- eyot/gram.names -/
def a131 : AFn := ⟨1, (.seq (.ops [(I 1 (.bim 7 (.t 0)))])
 (.seq (.ops [(I 4 (.fa 1 1 false (.t 1))), (I 5 (.ldi 1 false (.t 4))), (I 6 (.len (.t 5))), (I 7 (.mv (.k (.int .i64 0))))])
 (.block 0 (.loop [1, 5, 6, 7, 15, 16, 17, 18, 21, 22, 23, 24, 25] (.seq (.ops [(I 8 (.bin .lss (.t 7) (.t 6)))])
 (.seq (.cond (.t 8) .skip (.exit 0))
 (.seq (.block 1 (.seq (.ops [(I 9 (.mv (.t 7))), (I 10 (.ix 1 (.t 5) (.t 7))), (I 11 (.ld 1 false (.t 10))), (I 2 (.mv (.t 9))), (I 3 (.mv (.t 11)))])
 (.ops [(I 12 (.mv (.t 3))), (I 13 (.call 125 [(.t 12)])), (I 14 (.mv (.t 13))),
  ⟨some 15, .ldi 7 true (.t 1), some (14, true)⟩,
  ⟨some 16, .mv (.t 3), some (14, true)⟩,
  ⟨some 17, .call 62 [(.t 15), (.t 16)], some (14, true)⟩,
  ⟨some 18, .bin .lss (.t 17) (.k (.int .i64 0)), some (14, true)⟩, (I 19 (.pick (.t 14) (.t 18) (.k (.bool false)))), (I 20 (.mv (.t 19))),
  ⟨some 21, .ldi 7 true (.t 1), some (20, true)⟩,
  ⟨some 22, .mv (.t 3), some (20, true)⟩,
  ⟨some 23, .call 123 [(.t 21), (.t 22)], some (20, true)⟩,
  ⟨some 24, .mv (.t 2), some (20, true)⟩,
  ⟨some 25, .bin .eql (.t 23) (.t 24), some (20, true)⟩, (I 26 (.pick (.t 20) (.t 25) (.k (.bool false)))), (I 27 (.mv (.t 2))), (I 28 (.call 130 [(.t 26), (.t 27)]))])))
 (.ops [(I 29 (.bin .add (.t 7) (.k (.int .i64 1)))), (I 7 (.mv (.t 29)))])))))))), [], true⟩
/-- eyot/gram.symbol -/
def a132 : AFn := ⟨2, (.seq (.ops [(I 2 (.bim 7 (.t 0))), (I 4 (.mv (.k (.bool false))))])
 (.seq (.seq (.ops [(I 6 (.mv (.t 1))), (I 7 (.bin .geq (.t 6) (.k (.int .i64 0))))])
 (.cond (.t 7) (.seq (.ops [(I 8 (.mv (.t 1))), (I 9 (.fa 1 1 false (.t 2))), (I 10 (.ldi 1 false (.t 9))), (I 11 (.len (.t 10))), (I 12 (.bin .lss (.t 8) (.t 11))), (I 4 (.mv (.t 12)))])
 .ret) .skip))
 (.seq (.ops [(I 13 (.mv (.t 1))), (I 14 (.bin .sub (.k (.int .i64 (-1))) (.t 13))), (I 5 (.mv (.t 14)))])
 (.seq (.ops [(I 15 (.mv (.t 5))), (I 16 (.fa 0 1 false (.t 2))), (I 17 (.ldi 1 false (.t 16))), (I 18 (.len (.t 17))), (I 19 (.bin .lss (.t 15) (.t 18))), (I 20 (.mv (.t 19))),
  ⟨some 21, .fa 0 1 false (.t 2), some (20, true)⟩,
  ⟨some 22, .ldi 1 false (.t 21), some (20, true)⟩,
  ⟨some 23, .mv (.t 5), some (20, true)⟩,
  ⟨some 24, .ix 8 (.t 22) (.t 23), some (20, true)⟩,
  ⟨some 25, .fa 7 1 false (.t 24), some (20, true)⟩,
  ⟨some 26, .ld 1 false (.t 25), some (20, true)⟩,
  ⟨some 27, .un .not (.t 26), some (20, true)⟩, (I 28 (.pick (.t 20) (.t 27) (.k (.bool false)))), (I 4 (.mv (.t 28)))])
 .ret)))), [.tmp 4], true⟩
/-- eyot/gram.rules$1 -/
def a133 : AFn := ⟨2, (.seq (.ops [(I 2 (.bim 3 (.t 0))), (I 3 (.mv (.k (.bool false))))])
 (.seq (.ops [(I 4 (.fa 0 1 false (.t 2))), (I 5 (.ldi 1 false (.t 4))), (I 6 (.ld 1 false (.t 1))), (I 7 (.bin .eql (.t 5) (.t 6))), (I 3 (.mv (.t 7)))])
 .ret)), [.tmp 3], true⟩
/-- slices.ContainsFunc[[]eyot/api.Rule,eyot/api.Rule] -/
def a134 : AFn := ⟨2, (.seq (.ops [(I 4 (.mv (.k (.bool false))))])
 (.seq (.ops [(I 5 (.mv (.t 0))), (I 6 (.mv (.t 1))), (I 7 (.call 169 [(.t 5), (.t 6)])), (I 8 (.bin .geq (.t 7) (.k (.int .i64 0)))), (I 4 (.mv (.t 8)))])
 .ret)), [.tmp 4], true⟩
/-- eyot/gram.rules -/
def a135 : AFn := ⟨1, (.seq (.ops [(I 1 (.bim 7 (.t 0)))])
 (.seq (.seq (.ops [(I 7 (.fa 3 1 false (.t 1))), (I 8 (.ldi 1 false (.t 7))), (I 9 (.len (.t 8))), (I 10 (.mv (.k (.int .i64 0))))])
 (.block 0 (.loop [1, 8, 9, 10, 19, 20, 21, 22, 23, 24, 27, 28, 29, 30, 33, 34, 35, 38, 39, 40, 41, 42, 43] (.seq (.ops [(I 11 (.bin .lss (.t 10) (.t 9)))])
 (.seq (.cond (.t 11) .skip (.exit 0))
 (.seq (.block 1 (.seq (.ops [(I 12 (.mv (.t 10))), (I 13 (.ix 3 (.t 8) (.t 10))), (I 14 (.ld 3 true (.t 13))), (I 3 (.alv ([.int .i64 0, .list true [], .int .i64 0]))), (I 2 (.mv (.t 12))),
  ⟨none, .st 3 (.t 3) (.t 14), none⟩])
 (.seq (.ops [(I 15 (.fa 0 1 false (.t 3))), (I 16 (.ldp 1 false (.t 15))), (I 17 (.bin .geq (.t 16) (.k (.int .i64 0)))), (I 18 (.mv (.t 17))),
  ⟨some 19, .fa 0 1 false (.t 3), some (18, true)⟩,
  ⟨some 20, .ldp 1 false (.t 19), some (18, true)⟩,
  ⟨some 21, .fa 1 1 false (.t 1), some (18, true)⟩,
  ⟨some 22, .ldi 1 false (.t 21), some (18, true)⟩,
  ⟨some 23, .len (.t 22), some (18, true)⟩,
  ⟨some 24, .bin .lss (.t 20) (.t 23), some (18, true)⟩, (I 25 (.pick (.t 18) (.t 24) (.k (.bool false)))), (I 26 (.mv (.t 25))),
  ⟨some 27, .fa 1 1 false (.t 3), some (26, true)⟩,
  ⟨some 28, .ldp 1 false (.t 27), some (26, true)⟩,
  ⟨some 29, .len (.t 28), some (26, true)⟩,
  ⟨some 30, .bin .leq (.t 29) (.k (.int .i64 6)), some (26, true)⟩, (I 31 (.pick (.t 26) (.t 30) (.k (.bool false)))), (I 32 (.mv (.t 31))),
  ⟨some 33, .fa 2 1 false (.t 3), some (32, true)⟩,
  ⟨some 34, .ldp 1 false (.t 33), some (32, true)⟩,
  ⟨some 35, .bin .geq (.t 34) (.k (.int .i64 (-1))), some (32, true)⟩, (I 36 (.pick (.t 32) (.t 35) (.k (.bool false)))), (I 37 (.mv (.t 36))),
  ⟨some 38, .fa 2 1 false (.t 3), some (37, true)⟩,
  ⟨some 39, .ldp 1 false (.t 38), some (37, true)⟩,
  ⟨some 40, .fa 2 1 false (.t 1), some (37, true)⟩,
  ⟨some 41, .ldi 1 false (.t 40), some (37, true)⟩,
  ⟨some 42, .len (.t 41), some (37, true)⟩,
  ⟨some 43, .bin .lss (.t 39) (.t 42), some (37, true)⟩, (I 44 (.pick (.t 37) (.t 43) (.k (.bool false)))), (I 45 (.mv (.t 2))), (I 46 (.call 130 [(.t 44), (.t 45)]))])
 (.seq (.ops [(I 47 (.fa 1 1 false (.t 3))), (I 48 (.ldp 1 false (.t 47))), (I 49 (.len (.t 48))), (I 50 (.mv (.k (.int .i64 0))))])
 (.block 2 (.loop [1, 2, 8, 9, 10, 19, 20, 21, 22, 23, 24, 27, 28, 29, 30, 33, 34, 35, 38, 39, 40, 41, 42, 43, 48, 49, 50] (.seq (.ops [(I 51 (.bin .lss (.t 50) (.t 49)))])
 (.seq (.cond (.t 51) .skip (.exit 2))
 (.seq (.block 3 (.seq (.ops [(I 52 (.ix 1 (.t 48) (.t 50))), (I 53 (.ld 1 false (.t 52))), (I 5 (.mv (.t 53)))])
 (.ops [(I 54 (.ldi 7 true (.t 1))), (I 55 (.mv (.t 5))), (I 56 (.call 132 [(.t 54), (.t 55)])), (I 57 (.mv (.t 2))), (I 58 (.call 130 [(.t 56), (.t 57)]))])))
 (.ops [(I 59 (.bin .add (.t 50) (.k (.int .i64 1)))), (I 50 (.mv (.t 59)))]))))))))))
 (.ops [(I 60 (.bin .add (.t 10) (.k (.int .i64 1)))), (I 10 (.mv (.t 60)))])))))))
 (.seq (.seq (.ops [(I 61 (.fa 1 1 false (.t 1))), (I 62 (.ldi 1 false (.t 61))), (I 63 (.len (.t 62))), (I 64 (.mv (.k (.int .i64 0))))])
 (.block 4 (.loop [1, 63, 64] (.seq (.ops [(I 65 (.bin .lss (.t 64) (.t 63)))])
 (.seq (.cond (.t 65) .skip (.exit 4))
 (.seq (.block 5 (.seq (.ops [(I 66 (.mv (.t 64))), (I 6 (.aob ([.int .i64 0]))),
  ⟨none, .st 1 (.t 6) (.t 66), none⟩])
 (.dops [(I 67 (.fa 3 1 false (.t 1))), (I 68 (.ldi 1 false (.t 67))), (I 69 (.mkfn 133 [(.t 6)])), (I 70 (.call 134 [(.t 68), (.t 69)])), (I 71 (.ldo 1 false (.t 6))), (I 72 (.call 130 [(.t 70), (.t 71)]))])))
 (.ops [(I 73 (.bin .add (.t 64) (.k (.int .i64 1)))), (I 64 (.mv (.t 73)))])))))))
 (.ops [(I 74 (.fa 3 1 false (.t 1))), (I 75 (.ldi 1 false (.t 74))), (I 76 (.ix 3 (.t 75) (.k (.int .i64 0)))), (I 77 (.fa 0 1 false (.t 76))), (I 78 (.ld 1 false (.t 77))), (I 79 (.bin .eql (.t 78) (.k (.int .i64 0)))), (I 80 (.call 130 [(.t 79), (.k (.int .i64 0))]))])))), [], true⟩
/-- eyot/gram.scopes -/
def a136 : AFn := ⟨1, (.seq (.ops [(I 1 (.bim 7 (.t 0)))])
 (.seq (.ops [(I 6 (.fa 2 1 false (.t 1))), (I 7 (.ldi 1 false (.t 6))), (I 8 (.len (.t 7))), (I 9 (.mv (.k (.int .i64 0))))])
 (.block 0 (.loop [1, 7, 8, 9, 24, 25, 26, 27, 28, 29, 32, 33] (.seq (.ops [(I 10 (.bin .lss (.t 9) (.t 8)))])
 (.seq (.cond (.t 10) .skip (.exit 0))
 (.seq (.block 1 (.seq (.ops [(I 11 (.mv (.t 9))), (I 12 (.ix 2 (.t 7) (.t 9))), (I 13 (.ld 2 true (.t 12))), (I 3 (.alv ([.str [], .str []]))), (I 2 (.mv (.t 11))),
  ⟨none, .st 2 (.t 3) (.t 13), none⟩])
 (.seq (.ops [(I 15 (.fa 1 1 false (.t 3))), (I 16 (.ldp 1 false (.t 15))), (I 17 (.call 60 [(.t 16)])), (I 14 (.mv (.t 17))), (I 18 (.ext 0 (.t 14))), (I 19 (.ext 1 (.t 14))), (I 4 (.mv (.t 18))), (I 5 (.mv (.t 19)))])
 (.ops [(I 20 (.fa 0 1 false (.t 3))), (I 21 (.ldp 1 false (.t 20))), (I 22 (.call 125 [(.t 21)])), (I 23 (.mv (.t 22))),
  ⟨some 24, .ldi 7 true (.t 1), some (23, true)⟩,
  ⟨some 25, .fa 0 1 false (.t 3), some (23, true)⟩,
  ⟨some 26, .ldp 1 false (.t 25), some (23, true)⟩,
  ⟨some 27, .call 56 [(.t 24), (.t 26)], some (23, true)⟩,
  ⟨some 28, .mv (.t 2), some (23, true)⟩,
  ⟨some 29, .bin .eql (.t 27) (.t 28), some (23, true)⟩, (I 30 (.pick (.t 23) (.t 29) (.k (.bool false)))), (I 31 (.mv (.t 30))),
  ⟨some 32, .mv (.t 5), some (31, true)⟩,
  ⟨some 33, .bin .eql (.t 32) (.k (.int .i64 0)), some (31, true)⟩, (I 34 (.pick (.t 31) (.t 33) (.k (.bool false)))), (I 35 (.mv (.t 2))), (I 36 (.call 130 [(.t 34), (.t 35)]))]))))
 (.ops [(I 37 (.bin .add (.t 9) (.k (.int .i64 1)))), (I 9 (.mv (.t 37)))])))))))), [], true⟩
/-- slices.Concat[[]eyot/api.Set,eyot/api.Set] -/
def a137 : AFn := ⟨1, (.seq (.ops [(I 2 (.mv (.k (.list true []))))])
 (.seq (.ops [(I 3 (.mv (.k (.int .i64 0))))])
 (.seq (.seq (.ops [(I 9 (.mv (.t 0))), (I 10 (.len (.t 9))), (I 11 (.mv (.k (.int .i64 0))))])
 (.block 0 (.loop [0, 3, 9, 10, 11] (.seq (.ops [(I 12 (.bin .lss (.t 11) (.t 10)))])
 (.seq (.cond (.t 12) .skip (.exit 0))
 (.seq (.block 1 (.seq (.ops [(I 13 (.ix 1 (.t 9) (.t 11))), (I 14 (.ld 1 false (.t 13))), (I 5 (.mv (.t 14)))])
 (.seq (.ops [(I 15 (.mv (.t 3))), (I 16 (.mv (.t 5))), (I 17 (.len (.t 16))), (I 18 (.bin .add (.t 15) (.t 17))), (I 3 (.mv (.t 18)))])
 (.seq (.ops [(I 19 (.mv (.t 3))), (I 20 (.bin .lss (.t 19) (.k (.int .i64 0))))])
 (.cond (.t 20) (.ops [(I 21 (.mkif 0 (.k (.str [108, 101, 110, 32, 111, 117, 116, 32, 111, 102, 32, 114, 97, 110, 103, 101])))),
  ⟨none, .pan (.t 21), none⟩]) .skip)))))
 (.ops [(I 22 (.bin .add (.t 11) (.k (.int .i64 1)))), (I 11 (.mv (.t 22)))])))))))
 (.seq (.ops [(I 23 (.mv (.t 3))), (I 24 (.call 167 [(.k (.list true [])), (.t 23)])), (I 6 (.mv (.t 24)))])
 (.seq (.seq (.ops [(I 25 (.mv (.t 0))), (I 26 (.len (.t 25))), (I 27 (.mv (.k (.int .i64 0))))])
 (.block 2 (.loop [6, 25, 26, 27] (.seq (.ops [(I 28 (.bin .lss (.t 27) (.t 26)))])
 (.seq (.cond (.t 28) .skip (.exit 2))
 (.seq (.block 3 (.seq (.ops [(I 29 (.ix 1 (.t 25) (.t 27))), (I 30 (.ld 1 false (.t 29))), (I 8 (.mv (.t 30)))])
 (.ops [(I 31 (.mv (.t 6))), (I 32 (.mv (.t 8))), (I 33 (.app 4 (.t 31) (.t 32))), (I 6 (.mv (.t 33)))])))
 (.ops [(I 34 (.bin .add (.t 27) (.k (.int .i64 1)))), (I 27 (.mv (.t 34)))])))))))
 (.seq (.ops [(I 35 (.mv (.t 6))), (I 2 (.mv (.t 35)))])
 (.seq (.ops [⟨none, .frz (.sl .no) 2, none⟩]) .ret))))))), [.tmp 2], true⟩
/-- eyot/gram.sync -/
def a138 : AFn := ⟨1, (.seq (.ops [(I 1 (.bim 7 (.t 0)))])
 (.seq (.ops [(I 5 (.fa 4 1 false (.t 1))), (I 6 (.ldi 1 false (.t 5))), (I 7 (.fa 5 1 false (.t 1))), (I 8 (.ldi 1 false (.t 7))), (I 9 (.mkl (.list true []) 2 [(0, (.t 6)), (1, (.t 8))])), (I 10 (.call 137 [(.t 9)])), (I 2 (.mv (.t 10)))])
 (.seq (.ops [(I 11 (.mv (.t 2))), (I 12 (.len (.t 11))), (I 13 (.bin .gtr (.t 12) (.k (.int .i64 0)))), (I 14 (.mv (.t 13))),
  ⟨some 15, .fa 4 1 false (.t 1), some (14, true)⟩,
  ⟨some 16, .ldi 1 false (.t 15), some (14, true)⟩,
  ⟨some 17, .len (.t 16), some (14, true)⟩,
  ⟨some 18, .fa 5 1 false (.t 1), some (14, true)⟩,
  ⟨some 19, .ldi 1 false (.t 18), some (14, true)⟩,
  ⟨some 20, .len (.t 19), some (14, true)⟩,
  ⟨some 21, .mnmx true (.t 17) (.t 20), some (14, true)⟩,
  ⟨some 22, .bin .leq (.t 21) (.k (.int .i64 3)), some (14, true)⟩, (I 23 (.pick (.t 14) (.t 22) (.k (.bool false)))), (I 24 (.call 130 [(.t 23), (.k (.int .i64 0))]))])
 (.seq (.ops [(I 25 (.mv (.t 2))), (I 26 (.len (.t 25))), (I 27 (.mv (.k (.int .i64 0))))])
 (.block 0 (.loop [25, 26, 27] (.seq (.ops [(I 28 (.bin .lss (.t 27) (.t 26)))])
 (.seq (.cond (.t 28) .skip (.exit 0))
 (.seq (.block 1 (.seq (.ops [(I 29 (.mv (.t 27))), (I 30 (.ix 4 (.t 25) (.t 27))), (I 31 (.ld 4 true (.t 30))), (I 4 (.alv ([.int .u64 0, .int .u64 0, .int .u64 0, .int .u64 0]))), (I 3 (.mv (.t 29))),
  ⟨none, .st 4 (.t 4) (.t 31), none⟩])
 (.ops [(I 32 (.ldl 4 true 4)), (I 33 (.bld (.agg ([.int .u64 0, .int .u64 0, .int .u64 0, .int .u64 0])) [])), (I 34 (.eq true (.agg [.i, .i, .i, .i]) (.t 32) (.t 33))), (I 35 (.mv (.t 3))), (I 36 (.call 130 [(.t 34), (.t 35)]))])))
 (.ops [(I 37 (.bin .add (.t 27) (.k (.int .i64 1)))), (I 27 (.mv (.t 37)))])))))))))), [], true⟩
/-- eyot/gram.tokens -/
def a139 : AFn := ⟨1, (.seq (.ops [(I 1 (.bim 7 (.t 0)))])
 (.seq (.ops [(I 6 (.fa 0 1 false (.t 1))), (I 7 (.ldi 1 false (.t 6))), (I 8 (.len (.t 7))), (I 9 (.mv (.k (.int .i64 0))))])
 (.block 0 (.loop [1, 7, 8, 9, 24, 25, 26, 27, 28, 29, 32, 33, 36, 37, 38] (.seq (.ops [(I 10 (.bin .lss (.t 9) (.t 8)))])
 (.seq (.cond (.t 10) .skip (.exit 0))
 (.seq (.block 1 (.seq (.ops [(I 11 (.mv (.t 9))), (I 12 (.ix 8 (.t 7) (.t 9))), (I 13 (.ld 8 true (.t 12))), (I 3 (.alv ([.str [], .int .i64 0, .int .u64 0, .int .u64 0, .int .u64 0, .int .u64 0, .list true [], .bool false]))), (I 2 (.mv (.t 11))),
  ⟨none, .st 8 (.t 3) (.t 13), none⟩])
 (.seq (.ops [(I 15 (.fa 1 6 true (.t 3))), (I 16 (.ldp 6 true (.t 15))), (I 17 (.call 22 [(.t 16)])), (I 14 (.mv (.t 17))), (I 18 (.ext 0 (.t 14))), (I 19 (.ext 1 (.t 14))), (I 4 (.alv ([.list true [], .list true [], .list true [], .list true [], .bool false]))),
  ⟨none, .st 5 (.t 4) (.t 18), none⟩, (I 5 (.mv (.t 19)))])
 (.ops [(I 20 (.fa 0 1 false (.t 3))), (I 21 (.ldp 1 false (.t 20))), (I 22 (.call 125 [(.t 21)])), (I 23 (.mv (.t 22))),
  ⟨some 24, .ldi 7 true (.t 1), some (23, true)⟩,
  ⟨some 25, .fa 0 1 false (.t 3), some (23, true)⟩,
  ⟨some 26, .ldp 1 false (.t 25), some (23, true)⟩,
  ⟨some 27, .call 62 [(.t 24), (.t 26)], some (23, true)⟩,
  ⟨some 28, .mv (.t 2), some (23, true)⟩,
  ⟨some 29, .bin .eql (.t 27) (.t 28), some (23, true)⟩, (I 30 (.pick (.t 23) (.t 29) (.k (.bool false)))), (I 31 (.mv (.t 30))),
  ⟨some 32, .mv (.t 5), some (31, true)⟩,
  ⟨some 33, .bin .eql (.t 32) (.k (.int .i64 0)), some (31, true)⟩, (I 34 (.pick (.t 31) (.t 33) (.k (.bool false)))), (I 35 (.mv (.t 34))),
  ⟨some 36, .fa 4 1 false (.t 4), some (35, true)⟩,
  ⟨some 37, .ldp 1 false (.t 36), some (35, true)⟩,
  ⟨some 38, .un .not (.t 37), some (35, true)⟩, (I 39 (.pick (.t 35) (.t 38) (.k (.bool false)))), (I 40 (.mv (.t 2))), (I 41 (.call 130 [(.t 39), (.t 40)]))]))))
 (.ops [(I 42 (.bin .add (.t 9) (.k (.int .i64 1)))), (I 9 (.mv (.t 42)))])))))))), [], true⟩
/-- strings.Split -/
def a140 : AFn := ⟨2, (.seq (.ops [(I 4 (.mv (.k (.list true []))))])
 (.seq (.ops [(I 5 (.mv (.t 0))), (I 6 (.mv (.t 1))), (I 7 (.call 182 [(.t 5), (.t 6), (.k (.int .i64 0)), (.k (.int .i64 (-1)))])), (I 4 (.mv (.t 7)))])
 (.seq (.ops [⟨none, .frz (.sl .no) 4, none⟩]) .ret))), [.tmp 4], true⟩
/-- slices.Contains[[]string,string] -/
def a141 : AFn := ⟨2, (.seq (.ops [(I 4 (.mv (.k (.bool false))))])
 (.seq (.ops [(I 5 (.mv (.t 0))), (I 6 (.mv (.t 1))), (I 7 (.call 55 [(.t 5), (.t 6)])), (I 8 (.bin .geq (.t 7) (.k (.int .i64 0)))), (I 4 (.mv (.t 8)))])
 .ret)), [.tmp 4], true⟩
/-- (*eyot/gtext.reader).line -/
def a142 : AFn := ⟨2, (.seq (.ops [(I 4 (.aob ([.bool false])))])
 (.dfr 7 205 [(.t 4)] 4 (.seq (.ops [(I 8 (.mv (.t 1))), (I 9 (.call 140 [(.t 8), (.k (.str [32]))])), (I 5 (.mv (.t 9)))])
 (.seq (.ops [(I 10 (.mv (.t 5))), (I 11 (.call 141 [(.t 10), (.k (.str []))])), (I 12 (.un .not (.t 11))), (I 13 (.call 51 [(.t 12)]))])
 (.seq (.ops [(I 14 (.mv (.t 5))), (I 15 (.ix 1 (.t 14) (.k (.int .i64 0)))), (I 16 (.ld 1 false (.t 15))), (I 17 (.call 143 [(.t 16)])), (I 6 (.mv (.t 17)))])
 (.seq (.ops [(I 18 (.mv (.t 6))), (I 19 (.mv (.t 0))), (I 20 (.nilc (.t 19))), (I 21 (.fa 8 1 false (.t 20))), (I 22 (.ld 1 false (.t 21))), (I 23 (.bin .gtr (.t 18) (.t 22))), (I 24 (.mv (.t 23))),
  ⟨some 25, .mv (.t 6), some (24, false)⟩,
  ⟨some 26, .mv (.t 0), some (24, false)⟩,
  ⟨some 27, .nilc (.t 26), some (24, false)⟩,
  ⟨some 28, .fa 8 1 false (.t 27), some (24, false)⟩,
  ⟨some 29, .ld 1 false (.t 28), some (24, false)⟩,
  ⟨some 30, .bin .eql (.t 25) (.t 29), some (24, false)⟩,
  ⟨some 31, .mv (.t 30), some (24, false)⟩,
  ⟨some 32, .mv (.t 6), some (31, true)⟩,
  ⟨some 33, .bin .lss (.t 32) (.k (.int .i64 3)), some (31, true)⟩,
  ⟨some 34, .pick (.t 31) (.t 33) (.k (.bool false)), some (24, false)⟩, (I 35 (.pick (.t 24) (.k (.bool true)) (.t 34))), (I 36 (.call 51 [(.t 35)]))])
 (.seq (.ops [(I 37 (.mv (.t 0))), (I 38 (.mv (.t 6))), (I 39 (.nilc (.t 37))), (I 40 (.fa 8 1 false (.t 39))),
  ⟨none, .st 1 (.t 40) (.t 38), none⟩])
 (.seq (.seq (.ops [(I 41 (.mv (.t 6)))])
 (.block 0 (.seq (.ops [(I 46 (.bin .eql (.t 41) (.k (.int .i64 0)))), (I 45 (.mv (.t 46)))])
 (.cond (.t 45) (.ops [(I 47 (.mv (.t 0))), (I 48 (.mv (.t 5))), (I 49 (.call 66 [(.t 47), (.t 48)]))]) (.seq (.ops [(I 51 (.bin .eql (.t 41) (.k (.int .i64 1)))), (I 50 (.mv (.t 51)))])
 (.cond (.t 50) (.ops [(I 52 (.mv (.t 0))), (I 53 (.mv (.t 5))), (I 54 (.call 61 [(.t 52), (.t 53)]))]) (.seq (.ops [(I 56 (.bin .eql (.t 41) (.k (.int .i64 2)))), (I 55 (.mv (.t 56)))])
 (.cond (.t 55) (.ops [(I 57 (.mv (.t 0))), (I 58 (.mv (.t 5))), (I 59 (.call 58 [(.t 57), (.t 58)]))]) (.seq (.ops [(I 61 (.bin .eql (.t 41) (.k (.int .i64 3)))), (I 60 (.mv (.t 61)))])
 (.cond (.t 60) (.ops [(I 62 (.mv (.t 0))), (I 63 (.mv (.t 5))), (I 64 (.call 64 [(.t 62), (.t 63)]))]) (.ops [(I 42 (.mv (.t 0))), (I 43 (.mv (.t 5))), (I 44 (.call 53 [(.t 42), (.t 43)]))])))))))))))
 (.seq (.ops [⟨none, .st 1 (.t 4) (.k (.bool true)), none⟩])
 .ret)))))))
 (.seq (.ops [(I 5 (.tas 2 (.agg ([])) true (.t 4))), (I 3 (.mv (.t 5))), (I 6 (.ext 0 (.t 3))), (I 7 (.ext 1 (.t 3))), (I 1 (.alv ([]))),
  ⟨none, .st0 (.t 1) (.t 6), none⟩, (I 2 (.mv (.t 7)))])
 (.seq (.ops [(I 8 (.mv (.t 2)))])
 (.cond (.t 8) (.ops [⟨none, .st 1 (.t 0) (.k (.bool false)), none⟩]) .skip))))), [.cell 4 1 false], false⟩
/-- eyot/gtext.order -/
def a143 : AFn := ⟨1, (.seq (.ops [(I 2 (.mv (.k (.int .i64 0))))])
 (.seq (.seq (.ops [(I 3 (.mv (.t 0)))])
 (.block 0 (.seq (.seq (.ops [(I 5 (.bin .eql (.t 3) (.k (.str [116, 111, 107, 101, 110])))), (I 4 (.mv (.t 5)))])
 (.cond (.t 4) .skip (.ops [(I 6 (.bin .eql (.t 3) (.k (.str [116, 114, 105, 118, 105, 97])))), (I 4 (.mv (.t 6)))])))
 (.cond (.t 4) (.seq (.ops [(I 2 (.mv (.k (.int .i64 0))))])
 .ret) (.seq (.ops [(I 8 (.bin .eql (.t 3) (.k (.str [115, 99, 111, 112, 101])))), (I 7 (.mv (.t 8)))])
 (.cond (.t 7) (.seq (.ops [(I 2 (.mv (.k (.int .i64 1))))])
 .ret) (.seq (.ops [(I 10 (.bin .eql (.t 3) (.k (.str [114, 117, 108, 101])))), (I 9 (.mv (.t 10)))])
 (.cond (.t 9) (.seq (.ops [(I 2 (.mv (.k (.int .i64 2))))])
 .ret) (.seq (.ops [(I 12 (.bin .eql (.t 3) (.k (.str [115, 121, 110, 99])))), (I 11 (.mv (.t 12)))])
 (.cond (.t 11) (.seq (.ops [(I 2 (.mv (.k (.int .i64 3))))])
 .ret) (.seq (.ops [(I 14 (.bin .eql (.t 3) (.k (.str [109, 97, 120])))), (I 13 (.mv (.t 14)))])
 (.cond (.t 13) (.seq (.ops [(I 2 (.mv (.k (.int .i64 4))))])
 .ret) .skip))))))))))))
 (.seq (.ops [(I 2 (.mv (.k (.int .i64 (-1)))))])
 .ret))), [.tmp 2], true⟩
/-- eyot/gtext.Parse -/
def a144 : AFn := ⟨1, (.seq (.ops [(I 2 (.alv (List.replicate 6 (.list true []) ++ [.int .i64 0]))), (I 3 (.mv (.k (.int .i64 0)))), (I 4 (.mv (.k (.int .i64 0))))])
 (.seq (.seq (.ops [(I 16 (.mv (.t 0))), (I 17 (.lns (.t 16))), (I 18 (.bin .gtr (.t 17) (.k (.int .i64 1500))))])
 (.cond (.t 18) (.seq (.ops [(I 19 (.bld (.agg (List.replicate 6 (.list true []) ++ [.int .i64 0])) [])),
  ⟨none, .st 7 (.t 2) (.t 19), none⟩, (I 3 (.mv (.k (.int .i64 0)))), (I 4 (.mv (.k (.int .i64 5))))])
 (.seq (.ops [⟨none, .frz (.ag 0 (.sl (.ag 6 (.sl (.ag 5 (.sl (.ag 5 (.sl (.ag 5 (.sl (.ag 5 (.sl (.ag 5 (.sl .no) .no)) .no)) .no)) .no)) .no)) .no)) (.ag 1 (.sl .no) (.ag 2 (.sl .no) (.ag 3 (.sl (.ag 1 (.sl .no) .no)) (.ag 4 (.sl .no) (.ag 5 (.sl .no) .no)))))) 2, none⟩]) .ret)) .skip))
 (.seq (.ops [(I 20 (.mv (.t 0))), (I 21 (.call 140 [(.t 20), (.k (.str [10]))])), (I 5 (.mv (.t 21)))])
 (.seq (.ops [(I 22 (.bld (.agg (List.replicate 6 (.list true []) ++ [.int .i64 0, .list true [], .int .i64 0])) [((8, 1), (.k (.int .i64 0)))])), (I 23 (.bob 9 (.t 22))), (I 6 (.mv (.t 23)))])
 (.seq (.seq (.ops [(I 24 (.mv (.t 5))), (I 25 (.len (.t 24))), (I 26 (.mv (.k (.int .i64 0))))])
 (.block 0 (.loop [2, 5, 6, 24, 25, 26, 38, 39, 40, 41, 42, 43, 44, 78, 79, 87, 88, 89, 90] (.seq (.ops [(I 27 (.bin .lss (.t 26) (.t 25)))])
 (.seq (.cond (.t 27) .skip (.exit 0))
 (.seq (.block 1 (.seq (.ops [(I 28 (.ix 1 (.t 24) (.t 26))), (I 29 (.ld 1 false (.t 28))), (I 8 (.mv (.t 29)))])
 (.seq (.ops [(I 31 (.mv (.t 8))), (I 32 (.call 140 [(.t 31), (.k (.str [32]))])), (I 33 (.call 54 [(.t 32)])), (I 30 (.mv (.t 33))), (I 34 (.ext 0 (.t 30))), (I 35 (.ext 1 (.t 30))), (I 9 (.mv (.t 34))), (I 10 (.mv (.t 35)))])
 (.seq (.ops [(I 36 (.mv (.t 10))), (I 37 (.mv (.t 36))),
  ⟨some 38, .mv (.t 6), some (37, true)⟩,
  ⟨some 39, .nilc (.t 38), some (37, true)⟩,
  ⟨some 40, .fa 7 1 false (.t 39), some (37, true)⟩,
  ⟨some 41, .ld 1 false (.t 40), some (37, true)⟩,
  ⟨some 42, .mv (.t 9), some (37, true)⟩,
  ⟨some 43, .call 141 [(.t 41), (.t 42)], some (37, true)⟩,
  ⟨some 44, .un .not (.t 43), some (37, true)⟩, (I 45 (.pick (.t 37) (.t 44) (.k (.bool false))))])
 (.cond (.t 45) (.ops [(I 46 (.mv (.t 6))), (I 47 (.mv (.t 6))), (I 48 (.nilc (.t 47))), (I 49 (.fa 7 1 false (.t 48))), (I 50 (.ld 1 false (.t 49))), (I 51 (.mv (.t 9))), (I 52 (.mkl (.str []) 1 [(0, (.t 51))])), (I 53 (.app 1 (.t 50) (.t 52))), (I 54 (.nilc (.t 46))), (I 55 (.fa 7 1 false (.t 54))),
  ⟨none, .st 1 (.t 55) (.t 53), none⟩]) .skip)))))
 (.ops [(I 56 (.bin .add (.t 26) (.k (.int .i64 1)))), (I 26 (.mv (.t 56)))])))))))
 (.seq (.ops [(I 57 (.mv (.t 6))), (I 58 (.mv (.t 6))), (I 59 (.nilc (.t 58))), (I 60 (.fa 7 1 false (.t 59))), (I 61 (.ld 1 false (.t 60))), (I 62 (.nilc (.t 57))), (I 63 (.fa 0 7 true (.t 62))), (I 64 (.fa 1 1 false (.t 63))),
  ⟨none, .st 1 (.t 64) (.t 61), none⟩])
 (.seq (.ops [(I 11 (.mv (.k (.int .i64 0))))])
 (.seq (.seq (.ops [(I 65 (.mv (.t 5))), (I 66 (.len (.t 65))), (I 67 (.mv (.k (.int .i64 0))))])
 (.block 2 (.loop [2, 5, 6, 11, 65, 66, 67, 78, 79, 87, 88, 89, 90] (.seq (.ops [(I 68 (.bin .lss (.t 67) (.t 66)))])
 (.seq (.cond (.t 68) .skip (.exit 2))
 (.seq (.block 3 (.seq (.ops [(I 69 (.mv (.t 67))), (I 70 (.ix 1 (.t 65) (.t 67))), (I 71 (.ld 1 false (.t 70))), (I 12 (.mv (.t 69))), (I 13 (.mv (.t 71)))])
 (.seq (.seq (.ops [(I 72 (.mv (.t 12))), (I 73 (.mv (.t 5))), (I 74 (.len (.t 73))), (I 75 (.bin .sub (.t 74) (.k (.int .i64 1)))), (I 76 (.bin .eql (.t 72) (.t 75))), (I 77 (.mv (.t 76))),
  ⟨some 78, .mv (.t 13), some (77, true)⟩,
  ⟨some 79, .bin .eql (.t 78) (.k (.str [])), some (77, true)⟩, (I 80 (.pick (.t 77) (.t 79) (.k (.bool false))))])
 (.cond (.t 80) (.exit 2) .skip))
 (.seq (.seq (.ops [(I 81 (.mv (.t 12))), (I 82 (.mv (.t 5))), (I 83 (.len (.t 82))), (I 84 (.bin .sub (.t 83) (.k (.int .i64 1)))), (I 85 (.bin .eql (.t 81) (.t 84))), (I 86 (.mv (.t 85))),
  ⟨some 87, .mv (.t 6), some (86, false)⟩,
  ⟨some 88, .mv (.t 13), some (86, false)⟩,
  ⟨some 89, .call 142 [(.t 87), (.t 88)], some (86, false)⟩,
  ⟨some 90, .un .not (.t 89), some (86, false)⟩, (I 91 (.pick (.t 86) (.k (.bool true)) (.t 90)))])
 (.cond (.t 91) (.seq (.ops [(I 92 (.bld (.agg (List.replicate 6 (.list true []) ++ [.int .i64 0])) [])), (I 93 (.mv (.t 12))), (I 94 (.bin .add (.t 93) (.k (.int .i64 1)))),
  ⟨none, .st 7 (.t 2) (.t 92), none⟩, (I 3 (.mv (.t 94))), (I 4 (.mv (.k (.int .i64 5))))])
 (.seq (.ops [⟨none, .frz (.ag 0 (.sl (.ag 6 (.sl (.ag 5 (.sl (.ag 5 (.sl (.ag 5 (.sl (.ag 5 (.sl (.ag 5 (.sl .no) .no)) .no)) .no)) .no)) .no)) .no)) (.ag 1 (.sl .no) (.ag 2 (.sl .no) (.ag 3 (.sl (.ag 1 (.sl .no) .no)) (.ag 4 (.sl .no) (.ag 5 (.sl .no) .no)))))) 2, none⟩]) .ret)) .skip))
 (.seq (.ops [(I 95 (.mv (.t 13))), (I 96 (.call 140 [(.t 95), (.k (.str [32]))])), (I 97 (.ix 1 (.t 96) (.k (.int .i64 0)))), (I 98 (.ld 1 false (.t 97))), (I 99 (.call 143 [(.t 98)])), (I 100 (.bin .gtr (.t 99) (.k (.int .i64 2))))])
 (.cond (.t 100) (.ops [(I 101 (.mv (.t 11))), (I 102 (.bin .add (.t 101) (.k (.int .i64 1)))), (I 11 (.mv (.t 102)))]) .skip))))))
 (.ops [(I 103 (.bin .add (.t 67) (.k (.int .i64 1)))), (I 67 (.mv (.t 103)))])))))))
 (.seq (.seq (.ops [(I 104 (.mv (.t 11))), (I 105 (.bin .lss (.t 104) (.k (.int .i64 2))))])
 (.cond (.t 105) (.seq (.ops [(I 106 (.bld (.agg (List.replicate 6 (.list true []) ++ [.int .i64 0])) [])),
  ⟨none, .st 7 (.t 2) (.t 106), none⟩, (I 3 (.mv (.k (.int .i64 0)))), (I 4 (.mv (.k (.int .i64 5))))])
 (.seq (.ops [⟨none, .frz (.ag 0 (.sl (.ag 6 (.sl (.ag 5 (.sl (.ag 5 (.sl (.ag 5 (.sl (.ag 5 (.sl (.ag 5 (.sl .no) .no)) .no)) .no)) .no)) .no)) .no)) (.ag 1 (.sl .no) (.ag 2 (.sl .no) (.ag 3 (.sl (.ag 1 (.sl .no) .no)) (.ag 4 (.sl .no) (.ag 5 (.sl .no) .no)))))) 2, none⟩]) .ret)) .skip))
 (.seq (.seq (.ops [(I 108 (.mv (.t 6))), (I 109 (.nilc (.t 108))), (I 110 (.fa 0 7 true (.t 109))), (I 111 (.ld 7 true (.t 110))), (I 112 (.call 122 [(.t 111)])), (I 107 (.mv (.t 112))), (I 113 (.ext 0 (.t 107))), (I 114 (.ext 1 (.t 107))), (I 14 (.mv (.t 113))), (I 15 (.mv (.t 114)))])
 (.seq (.ops [(I 115 (.mv (.t 15))), (I 116 (.bin .neq (.t 115) (.k (.int .i64 0))))])
 (.cond (.t 116) (.seq (.ops [(I 117 (.bld (.agg (List.replicate 6 (.list true []) ++ [.int .i64 0])) [])), (I 118 (.mv (.t 15))),
  ⟨none, .st 7 (.t 2) (.t 117), none⟩, (I 3 (.mv (.k (.int .i64 0)))), (I 4 (.mv (.t 118)))])
 (.seq (.ops [⟨none, .frz (.ag 0 (.sl (.ag 6 (.sl (.ag 5 (.sl (.ag 5 (.sl (.ag 5 (.sl (.ag 5 (.sl (.ag 5 (.sl .no) .no)) .no)) .no)) .no)) .no)) .no)) (.ag 1 (.sl .no) (.ag 2 (.sl .no) (.ag 3 (.sl (.ag 1 (.sl .no) .no)) (.ag 4 (.sl .no) (.ag 5 (.sl .no) .no)))))) 2, none⟩]) .ret)) .skip)))
 (.seq (.ops [(I 119 (.mv (.t 6))), (I 120 (.nilc (.t 119))), (I 121 (.fa 0 7 true (.t 120))), (I 122 (.ld 7 true (.t 121))),
  ⟨none, .st 7 (.t 2) (.t 122), none⟩, (I 3 (.mv (.k (.int .i64 0)))), (I 4 (.mv (.k (.int .i64 0))))])
 (.seq (.ops [⟨none, .frz (.ag 0 (.sl (.ag 6 (.sl (.ag 5 (.sl (.ag 5 (.sl (.ag 5 (.sl (.ag 5 (.sl (.ag 5 (.sl .no) .no)) .no)) .no)) .no)) .no)) .no)) (.ag 1 (.sl .no) (.ag 2 (.sl .no) (.ag 3 (.sl (.ag 1 (.sl .no) .no)) (.ag 4 (.sl .no) (.ag 5 (.sl .no) .no)))))) 2, none⟩]) .ret)))))))))))), [.cell 2 7 true, .tmp 3, .tmp 4], true⟩
/-- eyot/item.all -/
def a145 : AFn := ⟨2, (.seq (.ops [(I 2 (.bob 7 (.t 0))), (I 4 (.mv (.k (.bool false))))])
 (.seq (.ops [(I 8 (.ldo 7 true (.t 2))), (I 9 (.call 122 [(.t 8)])), (I 7 (.mv (.t 9))), (I 10 (.ext 0 (.t 7))), (I 11 (.ext 1 (.t 7))), (I 5 (.mv (.t 10))), (I 6 (.mv (.t 11)))])
 (.seq (.ops [(I 12 (.mv (.t 6))), (I 13 (.bin .eql (.t 12) (.k (.int .i64 0)))), (I 14 (.mv (.t 13))),
  ⟨some 15, .mv (.t 1), some (14, true)⟩,
  ⟨some 16, .mkfn 209 [(.t 2)], some (14, true)⟩,
  ⟨some 17, .call 155 [(.t 15), (.t 16)], some (14, true)⟩,
  ⟨some 18, .un .not (.t 17), some (14, true)⟩, (I 19 (.pick (.t 14) (.t 18) (.k (.bool false)))), (I 4 (.mv (.t 19)))])
 .ret))), [.tmp 4], true⟩
/-- eyot/item.of -/
def a146 : AFn := ⟨1, (.seq (.ops [(I 1 (.bim 7 (.t 0))), (I 2 (.mv (.k (.nilp))))])
 (.seq (.dops [(I 3 (.ldi 7 true (.t 1))), (I 4 (.ldi 7 true (.t 1))), (I 5 (.call 111 [(.t 4)])), (I 6 (.ldi 7 true (.t 1))), (I 7 (.call 105 [(.t 6)])), (I 8 (.bld (.agg (List.replicate 6 (.list true []) ++ [.int .i64 0, .list true [], .list true []])) [((0, 7), (.t 3)), ((7, 1), (.t 5)), ((8, 1), (.t 7))])), (I 9 (.bob 9 (.t 8))), (I 2 (.mv (.t 9)))])
 .ret)), [.tmp 2], false⟩
/-- eyot/item.Symbols -/
def a147 : AFn := ⟨1, (.seq (.ops [(I 1 (.bim 7 (.t 0))), (I 2 (.mv (.k (.list true []))))])
 (.seq (.ops [(I 3 (.mv (.k (.list true []))))])
 (.seq (.seq (.ops [(I 6 (.fa 0 1 false (.t 1))), (I 7 (.ldi 1 false (.t 6))), (I 8 (.len (.t 7))), (I 9 (.mv (.k (.int .i64 0))))])
 (.block 0 (.loop [1, 3, 8, 9] (.seq (.ops [(I 10 (.bin .lss (.t 9) (.t 8)))])
 (.seq (.cond (.t 10) .skip (.exit 0))
 (.seq (.block 1 (.seq (.ops [(I 11 (.mv (.t 9))), (I 4 (.mv (.t 11)))])
 (.ops [(I 12 (.mv (.t 3))), (I 13 (.mv (.t 4))), (I 14 (.bin .sub (.k (.int .i64 (-1))) (.t 13))), (I 15 (.mkl (.int .i64 0) 1 [(0, (.t 14))])), (I 16 (.app 1 (.t 12) (.t 15))), (I 3 (.mv (.t 16)))])))
 (.ops [(I 17 (.bin .add (.t 9) (.k (.int .i64 1)))), (I 9 (.mv (.t 17)))])))))))
 (.seq (.seq (.ops [(I 18 (.fa 1 1 false (.t 1))), (I 19 (.ldi 1 false (.t 18))), (I 20 (.len (.t 19))), (I 21 (.mv (.k (.int .i64 0))))])
 (.block 2 (.loop [3, 20, 21] (.seq (.ops [(I 22 (.bin .lss (.t 21) (.t 20)))])
 (.seq (.cond (.t 22) .skip (.exit 2))
 (.seq (.block 3 (.seq (.ops [(I 23 (.mv (.t 21))), (I 5 (.mv (.t 23)))])
 (.ops [(I 24 (.mv (.t 3))), (I 25 (.mv (.t 5))), (I 26 (.mkl (.int .i64 0) 1 [(0, (.t 25))])), (I 27 (.app 1 (.t 24) (.t 26))), (I 3 (.mv (.t 27)))])))
 (.ops [(I 28 (.bin .add (.t 21) (.k (.int .i64 1)))), (I 21 (.mv (.t 28)))])))))))
 (.seq (.ops [(I 29 (.mv (.t 3))), (I 2 (.mv (.t 29)))])
 (.seq (.ops [⟨none, .frz (.sl .no) 2, none⟩]) .ret)))))), [.tmp 2], true⟩
/-- eyot/item.Sets$1 -/
def a148 : AFn := ⟨2, (.seq (.ops [(I 3 (.mv (.k (.bool false))))])
 (.seq (.ops [(I 4 (.mv (.t 0))), (I 5 (.ld 1 false (.t 1))), (I 6 (.call 151 [(.t 4), (.t 5)])), (I 3 (.mv (.t 6)))])
 .ret)), [.tmp 3], true⟩
/-- slices.ContainsFunc[[][]eyot/api.Item,[]eyot/api.Item] -/
def a149 : AFn := ⟨2, (.seq (.ops [(I 4 (.mv (.k (.bool false))))])
 (.seq (.ops [(I 5 (.mv (.t 0))), (I 6 (.mv (.t 1))), (I 7 (.call 153 [(.t 5), (.t 6)])), (I 8 (.bin .geq (.t 7) (.k (.int .i64 0)))), (I 4 (.mv (.t 8)))])
 .ret)), [.tmp 4], true⟩
/-- eyot/item.Sets -/
def a150 : AFn := ⟨1, (.seq (.ops [(I 1 (.bim 7 (.t 0))), (I 2 (.mv (.k (.list true [])))), (I 3 (.mv (.k (.int .i64 0))))])
 (.seq (.seq (.ops [(I 10 (.ldi 7 true (.t 1))), (I 11 (.call 145 [(.t 10), (.k (.list true []))])), (I 12 (.un .not (.t 11)))])
 (.cond (.t 12) (.seq (.ops [(I 2 (.mv (.k (.list true [])))), (I 3 (.mv (.k (.int .i64 1))))])
 (.seq (.ops [⟨none, .frz (.sl (.sl .no)) 2, none⟩]) .ret)) .skip))
 (.seq (.ops [(I 13 (.ldi 7 true (.t 1))), (I 14 (.call 146 [(.t 13)])), (I 4 (.mv (.t 14)))])
 (.seq (.ops [(I 15 (.ldi 7 true (.t 1))), (I 16 (.call 147 [(.t 15)])), (I 5 (.mv (.t 16)))])
 (.seq (.ops [(I 17 (.mv (.t 4))), (I 18 (.bld (.agg ([.int .i64 0, .int .i64 0, .int .i64 0])) [((0, 1), (.k (.int .i64 (-1)))), ((2, 1), (.k (.int .i64 1000)))])), (I 19 (.mkl (.agg ([.int .i64 0, .int .i64 0, .int .i64 0])) 1 [(0, (.t 18))])), (I 20 (.call 69 [(.t 17), (.t 19)])), (I 21 (.mkm (.list true []) 1 [(0, (.t 20))])), (I 2 (.mv (.t 21)))])
 (.seq (.seq (.ops [(I 6 (.mv (.k (.int .i64 0))))])
 (.block 0 (.loop [2, 4, 5, 6, 45, 46, 47] (.seq (.seq (.ops [(I 22 (.mv (.t 6))), (I 23 (.mv (.t 2))), (I 24 (.len (.t 23))), (I 25 (.bin .lss (.t 22) (.t 24)))])
 (.cond (.t 25) .skip (.exit 0)))
 (.seq (.block 1 (.seq (.ops [(I 28 (.mv (.t 5))), (I 29 (.len (.t 28))), (I 30 (.mv (.k (.int .i64 0))))])
 (.block 2 (.loop [2, 4, 5, 6, 28, 29, 30, 45, 46, 47] (.seq (.ops [(I 31 (.bin .lss (.t 30) (.t 29)))])
 (.seq (.cond (.t 31) .skip (.exit 2))
 (.seq (.block 3 (.seq (.ops [(I 32 (.ix 1 (.t 28) (.t 30))), (I 33 (.ld 1 false (.t 32))), (I 8 (.mv (.t 33)))])
 (.seq (.ops [(I 34 (.mv (.t 4))), (I 35 (.mv (.t 2))), (I 36 (.mv (.t 6))), (I 37 (.ix 1 (.t 35) (.t 36))), (I 38 (.ld 1 false (.t 37))), (I 39 (.mv (.t 8))), (I 40 (.call 70 [(.t 34), (.t 38), (.t 39)])), (I 9 (.aob ([.list true []]))),
  ⟨none, .st 1 (.t 9) (.t 40), none⟩])
 (.seq (.seq (.ops [(I 41 (.ldo 1 false (.t 9))), (I 42 (.len (.t 41))), (I 43 (.bin .eql (.t 42) (.k (.int .i64 0)))), (I 44 (.mv (.t 43))),
  ⟨some 45, .mv (.t 2), some (44, false)⟩,
  ⟨some 46, .mkfn 148 [(.t 9)], some (44, false)⟩,
  ⟨some 47, .call 149 [(.t 45), (.t 46)], some (44, false)⟩, (I 48 (.pick (.t 44) (.k (.bool true)) (.t 47)))])
 (.cond (.t 48) (.exit 3) .skip))
 (.seq (.seq (.ops [(I 49 (.mv (.t 2))), (I 50 (.len (.t 49))), (I 51 (.bin .eql (.t 50) (.k (.int .i64 120))))])
 (.cond (.t 51) (.seq (.ops [(I 2 (.mv (.k (.list true [])))), (I 3 (.mv (.k (.int .i64 6))))])
 (.seq (.ops [⟨none, .frz (.sl (.sl .no)) 2, none⟩]) .ret)) .skip))
 (.ops [(I 52 (.mv (.t 2))), (I 53 (.ldo 1 false (.t 9))), (I 54 (.mkl (.list true []) 1 [(0, (.t 53))])), (I 55 (.app 1 (.t 52) (.t 54))), (I 2 (.mv (.t 55)))]))))))
 (.ops [(I 56 (.bin .add (.t 30) (.k (.int .i64 1)))), (I 30 (.mv (.t 56)))]))))))))
 (.ops [(I 26 (.mv (.t 6))), (I 27 (.bin .add (.t 26) (.k (.int .i64 1)))), (I 6 (.mv (.t 27)))]))))))
 (.seq (.ops [(I 57 (.mv (.t 2))), (I 2 (.mv (.t 57))), (I 3 (.mv (.k (.int .i64 0))))])
 (.seq (.ops [⟨none, .frz (.sl (.sl .no)) 2, none⟩]) .ret)))))))), [.tmp 2, .tmp 3], true⟩
/-- slices.Equal[[]eyot/api.Item,eyot/api.Item] -/
def a151 : AFn := ⟨2, (.seq (.ops [(I 4 (.mv (.k (.bool false))))])
 (.seq (.seq (.ops [(I 6 (.mv (.t 0))), (I 7 (.len (.t 6))), (I 8 (.mv (.t 1))), (I 9 (.len (.t 8))), (I 10 (.bin .neq (.t 7) (.t 9)))])
 (.cond (.t 10) (.seq (.ops [(I 4 (.mv (.k (.bool false))))])
 .ret) .skip))
 (.seq (.seq (.ops [(I 11 (.mv (.t 0))), (I 12 (.len (.t 11))), (I 13 (.mv (.k (.int .i64 0))))])
 (.block 0 (.loop [0, 1, 12, 13] (.seq (.ops [(I 14 (.bin .lss (.t 13) (.t 12)))])
 (.seq (.cond (.t 14) .skip (.exit 0))
 (.seq (.block 1 (.seq (.ops [(I 15 (.mv (.t 13))), (I 5 (.mv (.t 15)))])
 (.seq (.dops [(I 16 (.mv (.t 0))), (I 17 (.mv (.t 5))), (I 18 (.ix 3 (.t 16) (.t 17))), (I 19 (.ld 3 true (.t 18))), (I 20 (.mv (.t 1))), (I 21 (.mv (.t 5))), (I 22 (.ix 3 (.t 20) (.t 21))), (I 23 (.ld 3 true (.t 22))), (I 24 (.eq true (.agg [.i, .i, .i]) (.t 19) (.t 23)))])
 (.cond (.t 24) (.seq (.ops [(I 4 (.mv (.k (.bool false))))])
 .ret) .skip))))
 (.ops [(I 25 (.bin .add (.t 13) (.k (.int .i64 1)))), (I 13 (.mv (.t 25)))])))))))
 (.seq (.ops [(I 4 (.mv (.k (.bool true))))])
 .ret)))), [.tmp 4], true⟩
/-- eyot/item.Steps$1 -/
def a152 : AFn := ⟨2, (.seq (.ops [(I 3 (.mv (.k (.bool false))))])
 (.seq (.ops [(I 4 (.ld 1 false (.t 1))), (I 5 (.len (.t 4))), (I 6 (.bin .gtr (.t 5) (.k (.int .i64 0)))), (I 7 (.mv (.t 6))),
  ⟨some 8, .mv (.t 0), some (7, true)⟩,
  ⟨some 9, .ld 1 false (.t 1), some (7, true)⟩,
  ⟨some 10, .call 151 [(.t 8), (.t 9)], some (7, true)⟩, (I 11 (.pick (.t 7) (.t 10) (.k (.bool false)))), (I 3 (.mv (.t 11)))])
 .ret)), [.tmp 3], true⟩
/-- slices.IndexFunc[[][]eyot/api.Item,[]eyot/api.Item] -/
def a153 : AFn := ⟨2, (.seq (.ops [(I 4 (.mv (.k (.int .i64 0))))])
 (.seq (.seq (.ops [(I 6 (.mv (.t 0))), (I 7 (.len (.t 6))), (I 8 (.mv (.k (.int .i64 0))))])
 (.block 0 (.loop [0, 1, 7, 8] (.seq (.ops [(I 9 (.bin .lss (.t 8) (.t 7)))])
 (.seq (.cond (.t 9) .skip (.exit 0))
 (.seq (.block 1 (.seq (.ops [(I 10 (.mv (.t 8))), (I 5 (.mv (.t 10)))])
 (.seq (.ops [(I 11 (.mv (.t 1))), (I 12 (.mv (.t 0))), (I 13 (.mv (.t 5))), (I 14 (.ix 1 (.t 12) (.t 13))), (I 15 (.ld 1 false (.t 14))), (I 16 (.callv (.t 11) [(.t 15)]))])
 (.cond (.t 16) (.seq (.ops [(I 17 (.mv (.t 5))), (I 4 (.mv (.t 17)))])
 .ret) .skip))))
 (.ops [(I 18 (.bin .add (.t 8) (.k (.int .i64 1)))), (I 8 (.mv (.t 18)))])))))))
 (.seq (.ops [(I 4 (.mv (.k (.int .i64 (-1)))))])
 .ret))), [.tmp 4], true⟩
/-- eyot/item.Steps -/
def a154 : AFn := ⟨2, (.seq (.ops [(I 2 (.bim 7 (.t 0))), (I 4 (.mv (.k (.list true []))))])
 (.seq (.ops [(I 13 (.ldi 7 true (.t 2))), (I 14 (.call 146 [(.t 13)])), (I 5 (.mv (.t 14)))])
 (.seq (.ops [(I 15 (.ldi 7 true (.t 2))), (I 16 (.call 147 [(.t 15)])), (I 6 (.mv (.t 16)))])
 (.seq (.ops [(I 17 (.mv (.t 1))), (I 18 (.len (.t 17))), (I 19 (.mks 1 (.list true []) (.t 18))), (I 7 (.mv (.t 19)))])
 (.seq (.seq (.ops [(I 20 (.mv (.t 1))), (I 21 (.len (.t 20))), (I 22 (.mv (.k (.int .i64 0))))])
 (.block 0 (.loop [1, 5, 6, 7, 20, 21, 22] (.seq (.ops [(I 23 (.bin .lss (.t 22) (.t 21)))])
 (.seq (.cond (.t 23) .skip (.exit 0))
 (.seq (.block 1 (.seq (.ops [(I 24 (.mv (.t 22))), (I 25 (.ix 1 (.t 20) (.t 22))), (I 26 (.ld 1 false (.t 25))), (I 8 (.mv (.t 24))), (I 9 (.mv (.t 26)))])
 (.seq (.ops [(I 27 (.mv (.t 6))), (I 28 (.len (.t 27))), (I 29 (.mv (.k (.int .i64 0))))])
 (.block 2 (.loop [1, 5, 6, 7, 8, 9, 20, 21, 22, 27, 28, 29] (.seq (.ops [(I 30 (.bin .lss (.t 29) (.t 28)))])
 (.seq (.cond (.t 30) .skip (.exit 2))
 (.seq (.block 3 (.seq (.ops [(I 31 (.ix 1 (.t 27) (.t 29))), (I 32 (.ld 1 false (.t 31))), (I 11 (.mv (.t 32)))])
 (.seq (.ops [(I 33 (.mv (.t 5))), (I 34 (.mv (.t 9))), (I 35 (.mv (.t 11))), (I 36 (.call 70 [(.t 33), (.t 34), (.t 35)])), (I 12 (.aob ([.list true []]))),
  ⟨none, .st 1 (.t 12) (.t 36), none⟩])
 (.dops [(I 37 (.mv (.t 7))), (I 38 (.mv (.t 8))), (I 39 (.mv (.t 7))), (I 40 (.mv (.t 8))), (I 41 (.ix 1 (.t 39) (.t 40))), (I 42 (.ld 1 false (.t 41))), (I 43 (.mv (.t 1))), (I 44 (.mkfn 152 [(.t 12)])), (I 45 (.call 153 [(.t 43), (.t 44)])), (I 46 (.mkl (.int .i64 0) 1 [(0, (.t 45))])), (I 47 (.app 1 (.t 42) (.t 46))), (I 48 (.ix 1 (.t 37) (.t 38))),
  ⟨none, .st 1 (.t 48) (.t 47), none⟩]))))
 (.ops [(I 49 (.bin .add (.t 29) (.k (.int .i64 1)))), (I 29 (.mv (.t 49)))])))))))))
 (.ops [(I 50 (.bin .add (.t 22) (.k (.int .i64 1)))), (I 22 (.mv (.t 50)))])))))))
 (.seq (.ops [(I 51 (.mv (.t 7))), (I 4 (.mv (.t 51)))])
 (.seq (.ops [⟨none, .frz (.sl (.sl .no)) 4, none⟩]) .ret))))))), [.tmp 4], true⟩
/-- slices.ContainsFunc[[]eyot/api.Item,eyot/api.Item] -/
def a155 : AFn := ⟨2, (.seq (.ops [(I 4 (.mv (.k (.bool false))))])
 (.seq (.ops [(I 5 (.mv (.t 0))), (I 6 (.mv (.t 1))), (I 7 (.call 168 [(.t 5), (.t 6)])), (I 8 (.bin .geq (.t 7) (.k (.int .i64 0)))), (I 4 (.mv (.t 8)))])
 .ret)), [.tmp 4], true⟩
/-- eyot/item.before -/
def a156 : AFn := ⟨2, (.seq (.ops [(I 2 (.bim 3 (.t 0))), (I 3 (.bim 3 (.t 1))), (I 4 (.mv (.k (.int .i64 0))))])
 (.seq (.ops [(I 5 (.fa 0 1 false (.t 2))), (I 6 (.ldi 1 false (.t 5))), (I 7 (.fa 0 1 false (.t 3))), (I 8 (.ldi 1 false (.t 7))), (I 9 (.bin .sub (.t 6) (.t 8))), (I 10 (.fa 1 1 false (.t 2))), (I 11 (.ldi 1 false (.t 10))), (I 12 (.fa 1 1 false (.t 3))), (I 13 (.ldi 1 false (.t 12))), (I 14 (.bin .sub (.t 11) (.t 13))), (I 15 (.fa 2 1 false (.t 2))), (I 16 (.ldi 1 false (.t 15))), (I 17 (.fa 2 1 false (.t 3))), (I 18 (.ldi 1 false (.t 17))), (I 19 (.bin .sub (.t 16) (.t 18))), (I 20 (.mkl (.int .i64 0) 3 [(0, (.t 9)), (1, (.t 14)), (2, (.t 19))])), (I 21 (.call 93 [(.t 20)])), (I 4 (.mv (.t 21)))])
 .ret)), [.tmp 4], true⟩
/-- eyot/lang.must -/
def a157 : AFn := ⟨2, (.seq (.ops [(I 4 (.mv (.t 1))), (I 5 (.bin .neq (.t 4) (.k (.int .i64 0))))])
 (.cond (.t 5) (.ops [(I 6 (.mv (.t 0))), (I 7 (.mv (.t 1))), (I 8 (.bld (.agg ([.int .i64 0, .int .i64 0])) [((0, 1), (.t 6)), ((1, 1), (.t 7))])), (I 9 (.mkif 6 (.t 8))),
  ⟨none, .pan (.t 9), none⟩]) .skip)), [], true⟩
/-- eyot/weigh.digits -/
def a158 : AFn := ⟨1, (.seq (.ops [(I 2 (.mv (.k (.int .u64 0)))), (I 3 (.mv (.k (.int .i64 0)))), (I 4 (.mv (.k (.str []))))])
 (.seq (.block 0 (.loop [0, 2, 3, 9, 10, 11, 14, 15, 16] (.seq (.seq (.ops [(I 5 (.mv (.t 0))), (I 6 (.lns (.t 5))), (I 7 (.bin .gtr (.t 6) (.k (.int .i64 0)))), (I 8 (.mv (.t 7))),
  ⟨some 9, .mv (.t 0), some (8, true)⟩,
  ⟨some 10, .ixs (.t 9) (.k (.int .i64 0)), some (8, true)⟩,
  ⟨some 11, .bin .geq (.t 10) (.k (.int .u8 48)), some (8, true)⟩, (I 12 (.pick (.t 8) (.t 11) (.k (.bool false)))), (I 13 (.mv (.t 12))),
  ⟨some 14, .mv (.t 0), some (13, true)⟩,
  ⟨some 15, .ixs (.t 14) (.k (.int .i64 0)), some (13, true)⟩,
  ⟨some 16, .bin .leq (.t 15) (.k (.int .u8 57)), some (13, true)⟩, (I 17 (.pick (.t 13) (.t 16) (.k (.bool false))))])
 (.cond (.t 17) .skip (.exit 0)))
 (.block 1 (.seq (.seq (.ops [(I 18 (.mv (.t 3))), (I 19 (.bin .add (.t 18) (.k (.int .i64 1)))), (I 3 (.mv (.t 19)))])
 (.seq (.ops [(I 20 (.mv (.t 3))), (I 21 (.bin .gtr (.t 20) (.k (.int .i64 15))))])
 (.cond (.t 21) (.ops [(I 22 (.bld (.agg ([])) [])), (I 23 (.mkif 3 (.t 22))),
  ⟨none, .pan (.t 23), none⟩]) .skip)))
 (.dops [(I 24 (.mv (.t 2))), (I 25 (.bin .mul (.t 24) (.k (.int .u64 10)))), (I 26 (.mv (.t 0))), (I 27 (.ixs (.t 26) (.k (.int .i64 0)))), (I 28 (.bin .sub (.t 27) (.k (.int .u8 48)))), (I 29 (.cvi .u64 (.t 28))), (I 30 (.bin .add (.t 25) (.t 29))), (I 31 (.mv (.t 0))), (I 32 (.ss (.t 31) (some (.k (.int .i64 1))) none)), (I 2 (.mv (.t 30))), (I 0 (.mv (.t 32)))]))))))
 (.seq (.seq (.ops [(I 33 (.mv (.t 3))), (I 34 (.bin .eql (.t 33) (.k (.int .i64 0))))])
 (.cond (.t 34) (.ops [(I 35 (.bld (.agg ([])) [])), (I 36 (.mkif 3 (.t 35))),
  ⟨none, .pan (.t 36), none⟩]) .skip))
 (.seq (.ops [(I 37 (.mv (.t 2))), (I 38 (.mv (.t 3))), (I 39 (.mv (.t 0))), (I 2 (.mv (.t 37))), (I 3 (.mv (.t 38))), (I 4 (.mv (.t 39)))])
 .ret)))), [.tmp 2, .tmp 3, .tmp 4], true⟩
/-- eyot/weigh.plain -/
def a159 : AFn := ⟨1, (.seq (.ops [(I 2 (.mv (.k (.flt .f64 0))))])
 (.seq (.ops [(I 10 (.mv (.t 0))), (I 11 (.call 158 [(.t 10)])), (I 9 (.mv (.t 11))), (I 12 (.ext 0 (.t 9))), (I 13 (.ext 1 (.t 9))), (I 14 (.ext 2 (.t 9))), (I 3 (.mv (.t 12))), (I 4 (.mv (.t 13))), (I 5 (.mv (.t 14)))])
 (.seq (.seq (.ops [(I 15 (.mv (.t 5))), (I 16 (.bin .eql (.t 15) (.k (.str []))))])
 (.cond (.t 16) (.seq (.ops [(I 17 (.mv (.t 3))), (I 18 (.nat 4 [(.t 17)])), (I 2 (.mv (.t 18)))])
 .ret) .skip))
 (.seq (.seq (.ops [(I 19 (.mv (.t 5))), (I 20 (.ixs (.t 19) (.k (.int .i64 0)))), (I 21 (.bin .neq (.t 20) (.k (.int .u8 46))))])
 (.cond (.t 21) (.ops [(I 22 (.bld (.agg ([])) [])), (I 23 (.mkif 3 (.t 22))),
  ⟨none, .pan (.t 23), none⟩]) .skip))
 (.seq (.ops [(I 25 (.mv (.t 5))), (I 26 (.ss (.t 25) (some (.k (.int .i64 1))) none)), (I 27 (.call 158 [(.t 26)])), (I 24 (.mv (.t 27))), (I 28 (.ext 0 (.t 24))), (I 29 (.ext 1 (.t 24))), (I 30 (.ext 2 (.t 24))), (I 6 (.mv (.t 28))), (I 7 (.mv (.t 29))), (I 5 (.mv (.t 30)))])
 (.seq (.seq (.ops [(I 31 (.mv (.t 5))), (I 32 (.bin .neq (.t 31) (.k (.str [])))), (I 33 (.mv (.t 32))),
  ⟨some 34, .mv (.t 4), some (33, false)⟩,
  ⟨some 35, .mv (.t 7), some (33, false)⟩,
  ⟨some 36, .bin .add (.t 34) (.t 35), some (33, false)⟩,
  ⟨some 37, .bin .gtr (.t 36) (.k (.int .i64 15)), some (33, false)⟩, (I 38 (.pick (.t 33) (.k (.bool true)) (.t 37)))])
 (.cond (.t 38) (.ops [(I 39 (.bld (.agg ([])) [])), (I 40 (.mkif 3 (.t 39))),
  ⟨none, .pan (.t 40), none⟩]) .skip))
 (.seq (.ops [(I 8 (.mv (.k (.int .u64 1))))])
 (.seq (.seq (.ops [(I 41 (.mv (.t 7))), (I 42 (.mv (.k (.int .i64 0))))])
 (.block 0 (.loop [3, 6, 8, 41, 42] (.seq (.ops [(I 43 (.bin .lss (.t 42) (.t 41)))])
 (.seq (.cond (.t 43) .skip (.exit 0))
 (.seq (.block 1 (.ops [(I 44 (.mv (.t 8))), (I 45 (.bin .mul (.t 44) (.k (.int .u64 10)))), (I 8 (.mv (.t 45)))]))
 (.ops [(I 46 (.bin .add (.t 42) (.k (.int .i64 1)))), (I 42 (.mv (.t 46)))])))))))
 (.seq (.ops [(I 47 (.mv (.t 3))), (I 48 (.mv (.t 8))), (I 49 (.bin .mul (.t 47) (.t 48))), (I 50 (.mv (.t 6))), (I 51 (.bin .add (.t 49) (.t 50))), (I 52 (.nat 4 [(.t 51)])), (I 53 (.mv (.t 8))), (I 54 (.nat 4 [(.t 53)])), (I 55 (.bin .quo (.t 52) (.t 54))), (I 2 (.mv (.t 55)))])
 .ret))))))))), [.tmp 2], true⟩
/-- eyot/weigh.number -/
def a160 : AFn := ⟨1, (.seq (.ops [(I 2 (.mv (.k (.flt .f64 0))))])
 (.seq (.block 0 (.seq (.ops [(I 4 (.mv (.t 0))), (I 5 (.bin .eql (.t 4) (.k (.str [110, 97, 110])))), (I 3 (.mv (.t 5)))])
 (.cond (.t 3) (.seq (.ops [(I 6 (.call 103 [])), (I 2 (.mv (.t 6)))])
 .ret) (.seq (.ops [(I 8 (.mv (.t 0))), (I 9 (.bin .eql (.t 8) (.k (.str [105, 110, 102])))), (I 7 (.mv (.t 9)))])
 (.cond (.t 7) (.seq (.ops [(I 10 (.call 207 [(.k (.int .i64 1))])), (I 2 (.mv (.t 10)))])
 .ret) (.seq (.ops [(I 12 (.mv (.t 0))), (I 13 (.bin .eql (.t 12) (.k (.str [45, 105, 110, 102])))), (I 11 (.mv (.t 13)))])
 (.cond (.t 11) (.seq (.ops [(I 14 (.call 207 [(.k (.int .i64 (-1)))])), (I 2 (.mv (.t 14)))])
 .ret) (.seq (.ops [(I 16 (.mv (.t 0))), (I 17 (.lns (.t 16))), (I 18 (.bin .gtr (.t 17) (.k (.int .i64 0)))), (I 19 (.mv (.t 18))),
  ⟨some 20, .mv (.t 0), some (19, true)⟩,
  ⟨some 21, .ixs (.t 20) (.k (.int .i64 0)), some (19, true)⟩,
  ⟨some 22, .bin .eql (.t 21) (.k (.int .u8 45)), some (19, true)⟩, (I 23 (.pick (.t 19) (.t 22) (.k (.bool false)))), (I 15 (.mv (.t 23)))])
 (.cond (.t 15) (.seq (.ops [(I 24 (.mv (.t 0))), (I 25 (.ss (.t 24) (some (.k (.int .i64 1))) none)), (I 26 (.call 159 [(.t 25)])), (I 27 (.call 214 [(.t 26), (.k (.flt .f64 13830554455654793216))])), (I 2 (.mv (.t 27)))])
 .ret) .skip)))))))))
 (.seq (.ops [(I 28 (.mv (.t 0))), (I 29 (.call 159 [(.t 28)])), (I 2 (.mv (.t 29)))])
 .ret))), [.tmp 2], true⟩
/-- eyot/wide.of -/
def a161 : AFn := ⟨1, (.seq (.ops [(I 1 (.bim 7 (.t 0))), (I 2 (.alv (List.replicate 6 (.list true []) ++ [.int .i64 0, .list true [], .list true [], .nilmap]))), (I 3 (.mv (.k (.bool false))))])
 (.seq (.seq (.ops [(I 10 (.ldi 7 true (.t 1))), (I 11 (.call 122 [(.t 10)])), (I 9 (.mv (.t 11))), (I 12 (.ext 0 (.t 9))), (I 13 (.ext 1 (.t 9))), (I 4 (.mv (.t 12))), (I 5 (.mv (.t 13)))])
 (.seq (.ops [(I 14 (.mv (.t 5))), (I 15 (.bin .neq (.t 14) (.k (.int .i64 0))))])
 (.cond (.t 15) (.seq (.ops [(I 16 (.bld (.agg (List.replicate 6 (.list true []) ++ [.int .i64 0, .list true [], .list true [], .nilmap])) [])),
  ⟨none, .st 10 (.t 2) (.t 16), none⟩, (I 3 (.mv (.k (.bool false))))])
 .ret) .skip)))
 (.seq (.dops [(I 17 (.ldi 7 true (.t 1))), (I 18 (.ldi 7 true (.t 1))), (I 19 (.call 105 [(.t 18)])), (I 20 (.ix 1 (.t 19) (.k (.int .i64 0)))), (I 21 (.ld 1 false (.t 20))), (I 22 (.ldi 7 true (.t 1))), (I 23 (.call 108 [(.t 22)])), (I 24 (.ix 1 (.t 23) (.k (.int .i64 0)))), (I 25 (.ld 1 false (.t 24))), (I 26 .mkmp), (I 40 (.call 105 [(.t 18)])), (I 40 (.chk (.t 40) (.t 19))), (I 41 (.ix 1 (.t 19) (.k (.int .i64 0)))), (I 41 (.chk (.t 41) (.t 20))), (I 42 (.ld 1 false (.t 20))), (I 42 (.chk (.t 42) (.t 21))), (I 43 (.call 108 [(.t 22)])), (I 43 (.chk (.t 43) (.t 23))), (I 44 (.ix 1 (.t 23) (.k (.int .i64 0)))), (I 44 (.chk (.t 44) (.t 24))), (I 45 (.ld 1 false (.t 24))), (I 45 (.chk (.t 45) (.t 25))), (I 27 (.bld (.agg (List.replicate 6 (.list true []) ++ [.int .i64 0, .list true [], .list true [], .nilmap])) [((0, 7), (.t 17)), ((7, 1), (.t 21)), ((8, 1), (.t 25)), ((9, 1), (.t 26))])), (I 6 (.alv (List.replicate 6 (.list true []) ++ [.int .i64 0, .list true [], .list true [], .nilmap]))),
  ⟨none, .st 10 (.t 6) (.t 27), none⟩])
 (.seq (.seq (.ops [(I 28 (.ldi 7 true (.t 1))), (I 29 (.call 118 [(.t 28)])), (I 30 (.len (.t 29))), (I 31 (.mv (.k (.int .i64 0))))])
 (.block 0 (.loop [2, 6, 29, 30, 31] (.seq (.ops [(I 32 (.bin .lss (.t 31) (.t 30)))])
 (.seq (.cond (.t 32) .skip (.exit 0))
 (.seq (.block 1 (.seq (.ops [(I 33 (.ix 2 (.t 29) (.t 31))), (I 34 (.ld 2 true (.t 33))), (I 8 (.alv ([.int .i64 0, .int .i64 0]))),
  ⟨none, .st 2 (.t 8) (.t 34), none⟩])
 (.ops [(I 35 (.fa 9 1 false (.t 6))), (I 36 (.ldp 1 false (.t 35))), (I 37 (.ldl 2 true 8)),
  ⟨none, .mpu 2 (.t 36) (.t 37) (.k (.bool true)), none⟩])))
 (.ops [(I 38 (.bin .add (.t 31) (.k (.int .i64 1)))), (I 31 (.mv (.t 38)))])))))))
 (.seq (.ops [(I 39 (.ldl 10 true 6)),
  ⟨none, .st 10 (.t 2) (.t 39), none⟩, (I 3 (.mv (.k (.bool true))))])
 .ret))))), [.cell 2 10 true, .tmp 3], false⟩
/-- eyot/wide.beside -/
def a162 : AFn := ⟨1, (.seq (.ops [(I 2 (.mv (.k (.list true []))))])
 (.seq (.ops [(I 3 (.mv (.k (.list true []))))])
 (.seq (.seq (.ops [(I 8 (.mv (.t 0))), (I 9 (.len (.t 8))), (I 10 (.mv (.k (.int .i64 0))))])
 (.block 0 (.loop [3, 8, 9, 10] (.seq (.ops [(I 11 (.bin .lss (.t 10) (.t 9)))])
 (.seq (.cond (.t 11) .skip (.exit 0))
 (.seq (.block 1 (.seq (.ops [(I 12 (.ix 4 (.t 8) (.t 10))), (I 13 (.ld 4 true (.t 12))), (I 5 (.alv ([.int .u64 0, .int .u64 0, .int .u64 0, .int .u64 0]))),
  ⟨none, .st 4 (.t 5) (.t 13), none⟩])
 (.seq (.ops [(I 15 (.ldl 4 true 5)), (I 16 (.call 87 [(.t 15)])), (I 14 (.mv (.t 16))), (I 17 (.ext 0 (.t 14))), (I 18 (.ext 1 (.t 14))), (I 6 (.mv (.t 17))), (I 7 (.mv (.t 18)))])
 (.ops [(I 19 (.mv (.t 3))), (I 20 (.mv (.t 6))), (I 21 (.mkl (.int .u8 0) 1 [(0, (.t 20))])), (I 22 (.app 1 (.t 19) (.t 21))), (I 3 (.mv (.t 22)))]))))
 (.ops [(I 23 (.bin .add (.t 10) (.k (.int .i64 1)))), (I 10 (.mv (.t 23)))])))))))
 (.seq (.ops [(I 24 (.mv (.t 3))), (I 2 (.mv (.t 24)))])
 (.seq (.ops [⟨none, .frz (.sl .no) 2, none⟩]) .ret))))), [.tmp 2], true⟩
/-- internal/strconv.Atoi -/
def a163 : AFn := ⟨1, (.seq (.ops [(I 2 (.mv (.k (.int .i64 0)))), (I 3 (.mv (.k (.niliface))))])
 (.seq (.ops [(I 11 (.mv (.t 0))), (I 12 (.lns (.t 11))), (I 4 (.mv (.t 12)))])
 (.seq (.seq (.ops [(I 13 (.mv (.k (.bool false)))),
  ⟨some 14, .mv (.t 4), some (13, true)⟩,
  ⟨some 15, .bin .lss (.k (.int .i64 0)) (.t 14), some (13, true)⟩,
  ⟨some 16, .mv (.t 15), some (13, true)⟩,
  ⟨some 17, .mv (.t 4), some (16, true)⟩,
  ⟨some 18, .bin .lss (.t 17) (.k (.int .i64 10)), some (16, true)⟩,
  ⟨some 19, .pick (.t 16) (.t 18) (.k (.bool false)), some (13, true)⟩, (I 20 (.pick (.t 13) (.t 19) (.k (.bool false)))), (I 21 (.mv (.t 20))),
  ⟨some 22, .mv (.k (.bool true)), some (21, false)⟩,
  ⟨some 23, .mv (.t 4), some (22, true)⟩,
  ⟨some 24, .bin .lss (.k (.int .i64 0)) (.t 23), some (22, true)⟩,
  ⟨some 25, .mv (.t 24), some (22, true)⟩,
  ⟨some 26, .mv (.t 4), some (25, true)⟩,
  ⟨some 27, .bin .lss (.t 26) (.k (.int .i64 19)), some (25, true)⟩,
  ⟨some 28, .pick (.t 25) (.t 27) (.k (.bool false)), some (22, true)⟩,
  ⟨some 29, .pick (.t 22) (.t 28) (.k (.bool false)), some (21, false)⟩, (I 30 (.pick (.t 21) (.k (.bool true)) (.t 29)))])
 (.cond (.t 30) (.seq (.ops [(I 31 (.mv (.t 0))), (I 5 (.mv (.t 31)))])
 (.seq (.seq (.ops [(I 32 (.mv (.t 0))), (I 33 (.ixs (.t 32) (.k (.int .i64 0)))), (I 34 (.bin .eql (.t 33) (.k (.int .u8 45)))), (I 35 (.mv (.t 34))),
  ⟨some 36, .mv (.t 0), some (35, false)⟩,
  ⟨some 37, .ixs (.t 36) (.k (.int .i64 0)), some (35, false)⟩,
  ⟨some 38, .bin .eql (.t 37) (.k (.int .u8 43)), some (35, false)⟩, (I 39 (.pick (.t 35) (.k (.bool true)) (.t 38)))])
 (.cond (.t 39) (.seq (.ops [(I 40 (.mv (.t 0))), (I 41 (.ss (.t 40) (some (.k (.int .i64 1))) none)), (I 0 (.mv (.t 41)))])
 (.seq (.ops [(I 42 (.mv (.t 0))), (I 43 (.lns (.t 42))), (I 44 (.bin .lss (.t 43) (.k (.int .i64 1))))])
 (.cond (.t 44) (.seq (.ops [(I 45 (.mkif 8 (.k (.int .i64 2)))), (I 2 (.mv (.k (.int .i64 0)))), (I 3 (.mv (.t 45)))])
 .ret) .skip))) .skip))
 (.seq (.ops [(I 6 (.mv (.k (.int .i64 0))))])
 (.seq (.seq (.ops [(I 46 (.mv (.t 0))), (I 47 (.cvs (.t 46))), (I 48 (.len (.t 47))), (I 49 (.mv (.k (.int .i64 0))))])
 (.block 0 (.loop [5, 6, 47, 48, 49] (.seq (.ops [(I 50 (.bin .lss (.t 49) (.t 48)))])
 (.seq (.cond (.t 50) .skip (.exit 0))
 (.seq (.block 1 (.seq (.ops [(I 51 (.ix 1 (.t 47) (.t 49))), (I 52 (.ld 1 false (.t 51))), (I 8 (.mv (.t 52)))])
 (.seq (.ops [(I 53 (.mv (.t 8))), (I 54 (.bin .sub (.t 53) (.k (.int .u8 48)))), (I 8 (.mv (.t 54)))])
 (.seq (.seq (.ops [(I 55 (.mv (.t 8))), (I 56 (.bin .gtr (.t 55) (.k (.int .u8 9))))])
 (.cond (.t 56) (.seq (.ops [(I 57 (.mkif 8 (.k (.int .i64 2)))), (I 2 (.mv (.k (.int .i64 0)))), (I 3 (.mv (.t 57)))])
 .ret) .skip))
 (.ops [(I 58 (.mv (.t 6))), (I 59 (.bin .mul (.t 58) (.k (.int .i64 10)))), (I 60 (.mv (.t 8))), (I 61 (.cvi .i64 (.t 60))), (I 62 (.bin .add (.t 59) (.t 61))), (I 6 (.mv (.t 62)))])))))
 (.ops [(I 63 (.bin .add (.t 49) (.k (.int .i64 1)))), (I 49 (.mv (.t 63)))])))))))
 (.seq (.seq (.ops [(I 64 (.mv (.t 5))), (I 65 (.ixs (.t 64) (.k (.int .i64 0)))), (I 66 (.bin .eql (.t 65) (.k (.int .u8 45))))])
 (.cond (.t 66) (.ops [(I 67 (.mv (.t 6))), (I 68 (.un .neg (.t 67))), (I 6 (.mv (.t 68)))]) .skip))
 (.seq (.ops [(I 69 (.mv (.t 6))), (I 2 (.mv (.t 69))), (I 3 (.mv (.k (.niliface))))])
 .ret)))))) .skip))
 (.seq (.ops [(I 71 (.mv (.t 0))), (I 72 (.call 217 [(.t 71), (.k (.int .i64 10)), (.k (.int .i64 0))])), (I 70 (.mv (.t 72))), (I 73 (.ext 0 (.t 70))), (I 74 (.ext 1 (.t 70))), (I 9 (.mv (.t 73))), (I 10 (.mv (.t 74)))])
 (.seq (.ops [(I 75 (.mv (.t 9))), (I 76 (.mv (.t 10))), (I 2 (.mv (.t 75))), (I 3 (.mv (.t 76)))])
 .ret))))), [.tmp 2, .tmp 3], false⟩
/-- internal/stringslite.IndexByte -/
def a164 : AFn := ⟨2, (.seq (.ops [(I 4 (.mv (.k (.int .i64 0))))])
 (.seq (.ops [(I 5 (.mv (.t 0))), (I 6 (.mv (.t 1))), (I 7 (.nat 1 [(.t 5), (.t 6)])), (I 4 (.mv (.t 7)))])
 .ret)), [.tmp 4], true⟩
/-- math/bits.Mul64 -/
def a165 : AFn := ⟨2, (.seq (.ops [(I 4 (.mv (.k (.int .u64 0)))), (I 5 (.mv (.k (.int .u64 0))))])
 (.seq (.ops [(I 14 (.mv (.t 0))), (I 15 (.bin .and (.t 14) (.k (.int .u64 4294967295)))), (I 6 (.mv (.t 15)))])
 (.seq (.ops [(I 16 (.mv (.t 0))), (I 17 (.bin .shr (.t 16) (.k (.int .u64 32)))), (I 7 (.mv (.t 17)))])
 (.seq (.ops [(I 18 (.mv (.t 1))), (I 19 (.bin .and (.t 18) (.k (.int .u64 4294967295)))), (I 8 (.mv (.t 19)))])
 (.seq (.ops [(I 20 (.mv (.t 1))), (I 21 (.bin .shr (.t 20) (.k (.int .u64 32)))), (I 9 (.mv (.t 21)))])
 (.seq (.ops [(I 22 (.mv (.t 6))), (I 23 (.mv (.t 8))), (I 24 (.bin .mul (.t 22) (.t 23))), (I 10 (.mv (.t 24)))])
 (.seq (.ops [(I 25 (.mv (.t 7))), (I 26 (.mv (.t 8))), (I 27 (.bin .mul (.t 25) (.t 26))), (I 28 (.mv (.t 10))), (I 29 (.bin .shr (.t 28) (.k (.int .u64 32)))), (I 30 (.bin .add (.t 27) (.t 29))), (I 11 (.mv (.t 30)))])
 (.seq (.ops [(I 31 (.mv (.t 11))), (I 32 (.bin .and (.t 31) (.k (.int .u64 4294967295)))), (I 12 (.mv (.t 32)))])
 (.seq (.ops [(I 33 (.mv (.t 11))), (I 34 (.bin .shr (.t 33) (.k (.int .u64 32)))), (I 13 (.mv (.t 34)))])
 (.seq (.ops [(I 35 (.mv (.t 12))), (I 36 (.mv (.t 6))), (I 37 (.mv (.t 9))), (I 38 (.bin .mul (.t 36) (.t 37))), (I 39 (.bin .add (.t 35) (.t 38))), (I 12 (.mv (.t 39)))])
 (.seq (.ops [(I 40 (.mv (.t 7))), (I 41 (.mv (.t 9))), (I 42 (.bin .mul (.t 40) (.t 41))), (I 43 (.mv (.t 13))), (I 44 (.bin .add (.t 42) (.t 43))), (I 45 (.mv (.t 12))), (I 46 (.bin .shr (.t 45) (.k (.int .u64 32)))), (I 47 (.bin .add (.t 44) (.t 46))), (I 4 (.mv (.t 47)))])
 (.seq (.ops [(I 48 (.mv (.t 0))), (I 49 (.mv (.t 1))), (I 50 (.bin .mul (.t 48) (.t 49))), (I 5 (.mv (.t 50)))])
 .ret)))))))))))), [.tmp 4, .tmp 5], true⟩
/-- math/bits.Mul -/
def a166 : AFn := ⟨2, (.seq (.ops [(I 4 (.mv (.k (.int .u64 0)))), (I 5 (.mv (.k (.int .u64 0))))])
 (.seq (.cond (.k (.bool false)) (.seq (.ops [(I 11 (.mv (.t 0))), (I 12 (.cvi .u32 (.t 11))), (I 13 (.mv (.t 1))), (I 14 (.cvi .u32 (.t 13))), (I 15 (.call 218 [(.t 12), (.t 14)])), (I 10 (.mv (.t 15))), (I 16 (.ext 0 (.t 10))), (I 17 (.ext 1 (.t 10))), (I 6 (.mv (.t 16))), (I 7 (.mv (.t 17)))])
 (.seq (.ops [(I 18 (.mv (.t 6))), (I 19 (.cvi .u64 (.t 18))), (I 20 (.mv (.t 7))), (I 21 (.cvi .u64 (.t 20))), (I 4 (.mv (.t 19))), (I 5 (.mv (.t 21)))])
 .ret)) .skip)
 (.seq (.ops [(I 23 (.mv (.t 0))), (I 24 (.mv (.t 1))), (I 25 (.call 165 [(.t 23), (.t 24)])), (I 22 (.mv (.t 25))), (I 26 (.ext 0 (.t 22))), (I 27 (.ext 1 (.t 22))), (I 8 (.mv (.t 26))), (I 9 (.mv (.t 27)))])
 (.seq (.ops [(I 28 (.mv (.t 8))), (I 29 (.mv (.t 9))), (I 4 (.mv (.t 28))), (I 5 (.mv (.t 29)))])
 .ret)))), [.tmp 4, .tmp 5], true⟩
/-- slices.Grow[[]eyot/api.Set,eyot/api.Set] -/
def a167 : AFn := ⟨2, (.seq (.ops [(I 4 (.mv (.k (.list true []))))])
 (.seq (.seq (.ops [(I 5 (.mv (.t 1))), (I 6 (.bin .lss (.t 5) (.k (.int .i64 0))))])
 (.cond (.t 6) (.ops [(I 7 (.mkif 0 (.k (.str [99, 97, 110, 110, 111, 116, 32, 98, 101, 32, 110, 101, 103, 97, 116, 105, 118, 101])))),
  ⟨none, .pan (.t 7), none⟩]) .skip))
 (.seq (.seq (.ops [(I 8 (.mv (.t 1))), (I 9 (.mv (.t 0))), (I 10 (.cap (.t 9))), (I 11 (.mv (.t 0))), (I 12 (.len (.t 11))), (I 13 (.bin .sub (.t 10) (.t 12))), (I 14 (.bin .sub (.t 8) (.t 13))), (I 1 (.mv (.t 14)))])
 (.seq (.ops [(I 15 (.mv (.t 1))), (I 16 (.bin .gtr (.t 15) (.k (.int .i64 0))))])
 (.cond (.t 16) (.ops [(I 17 (.mv (.t 0))), (I 18 (.mv (.t 0))), (I 19 (.cap (.t 18))), (I 20 (.sl 4 (.t 17) none (some (.t 19)) none)), (I 21 (.mv (.t 1))), (I 22 (.apz 4 (.agg ([.int .u64 0, .int .u64 0, .int .u64 0, .int .u64 0])) (.t 20) (.t 21))), (I 23 (.mv (.t 0))), (I 24 (.len (.t 23))), (I 25 (.sl 4 (.t 22) none (some (.t 24)) none)), (I 0 (.mv (.t 25)))]) .skip)))
 (.seq (.ops [(I 26 (.mv (.t 0))), (I 4 (.mv (.t 26)))])
 .ret)))), [.tmp 4], false⟩
/-- slices.IndexFunc[[]eyot/api.Item,eyot/api.Item] -/
def a168 : AFn := ⟨2, (.seq (.ops [(I 4 (.mv (.k (.int .i64 0))))])
 (.seq (.seq (.ops [(I 6 (.mv (.t 0))), (I 7 (.len (.t 6))), (I 8 (.mv (.k (.int .i64 0))))])
 (.block 0 (.loop [0, 1, 7, 8] (.seq (.ops [(I 9 (.bin .lss (.t 8) (.t 7)))])
 (.seq (.cond (.t 9) .skip (.exit 0))
 (.seq (.block 1 (.seq (.ops [(I 10 (.mv (.t 8))), (I 5 (.mv (.t 10)))])
 (.seq (.ops [(I 11 (.mv (.t 1))), (I 12 (.mv (.t 0))), (I 13 (.mv (.t 5))), (I 14 (.ix 3 (.t 12) (.t 13))), (I 15 (.ld 3 true (.t 14))), (I 16 (.callv (.t 11) [(.t 15)]))])
 (.cond (.t 16) (.seq (.ops [(I 17 (.mv (.t 5))), (I 4 (.mv (.t 17)))])
 .ret) .skip))))
 (.ops [(I 18 (.bin .add (.t 8) (.k (.int .i64 1)))), (I 8 (.mv (.t 18)))])))))))
 (.seq (.ops [(I 4 (.mv (.k (.int .i64 (-1)))))])
 .ret))), [.tmp 4], true⟩
/-- slices.IndexFunc[[]eyot/api.Rule,eyot/api.Rule] -/
def a169 : AFn := ⟨2, (.seq (.ops [(I 4 (.mv (.k (.int .i64 0))))])
 (.seq (.seq (.ops [(I 6 (.mv (.t 0))), (I 7 (.len (.t 6))), (I 8 (.mv (.k (.int .i64 0))))])
 (.block 0 (.loop [0, 1, 7, 8] (.seq (.ops [(I 9 (.bin .lss (.t 8) (.t 7)))])
 (.seq (.cond (.t 9) .skip (.exit 0))
 (.seq (.block 1 (.seq (.ops [(I 10 (.mv (.t 8))), (I 5 (.mv (.t 10)))])
 (.seq (.ops [(I 11 (.mv (.t 1))), (I 12 (.mv (.t 0))), (I 13 (.mv (.t 5))), (I 14 (.ix 3 (.t 12) (.t 13))), (I 15 (.ld 3 true (.t 14))), (I 16 (.callv (.t 11) [(.t 15)]))])
 (.cond (.t 16) (.seq (.ops [(I 17 (.mv (.t 5))), (I 4 (.mv (.t 17)))])
 .ret) .skip))))
 (.ops [(I 18 (.bin .add (.t 8) (.k (.int .i64 1)))), (I 8 (.mv (.t 18)))])))))))
 (.seq (.ops [(I 4 (.mv (.k (.int .i64 (-1)))))])
 .ret))), [.tmp 4], true⟩
/-- slices.ContainsFunc[[]eyot/api.Token,eyot/api.Token] -/
def a170 : AFn := ⟨2, (.seq (.ops [(I 4 (.mv (.k (.bool false))))])
 (.seq (.ops [(I 5 (.mv (.t 0))), (I 6 (.mv (.t 1))), (I 7 (.call 129 [(.t 5), (.t 6)])), (I 8 (.bin .geq (.t 7) (.k (.int .i64 0)))), (I 4 (.mv (.t 8)))])
 .ret)), [.tmp 4], true⟩
/-- slices.IndexFunc[[]int,int] -/
def a171 : AFn := ⟨2, (.seq (.ops [(I 4 (.mv (.k (.int .i64 0))))])
 (.seq (.seq (.ops [(I 6 (.mv (.t 0))), (I 7 (.len (.t 6))), (I 8 (.mv (.k (.int .i64 0))))])
 (.block 0 (.loop [0, 1, 7, 8] (.seq (.ops [(I 9 (.bin .lss (.t 8) (.t 7)))])
 (.seq (.cond (.t 9) .skip (.exit 0))
 (.seq (.block 1 (.seq (.ops [(I 10 (.mv (.t 8))), (I 5 (.mv (.t 10)))])
 (.seq (.ops [(I 11 (.mv (.t 1))), (I 12 (.mv (.t 0))), (I 13 (.mv (.t 5))), (I 14 (.ix 1 (.t 12) (.t 13))), (I 15 (.ld 1 false (.t 14))), (I 16 (.callv (.t 11) [(.t 15)]))])
 (.cond (.t 16) (.seq (.ops [(I 17 (.mv (.t 5))), (I 4 (.mv (.t 17)))])
 .ret) .skip))))
 (.ops [(I 18 (.bin .add (.t 8) (.k (.int .i64 1)))), (I 8 (.mv (.t 18)))])))))))
 (.seq (.ops [(I 4 (.mv (.k (.int .i64 (-1)))))])
 .ret))), [.tmp 4], true⟩
/-- slices.Repeat[[]int,int] -/
def a172 : AFn := ⟨2, (.seq (.ops [(I 4 (.mv (.k (.list true []))))])
 (.seq (.seq (.ops [(I 9 (.mv (.t 1))), (I 10 (.bin .lss (.t 9) (.k (.int .i64 0))))])
 (.cond (.t 10) (.ops [(I 11 (.mkif 0 (.k (.str [99, 97, 110, 110, 111, 116, 32, 98, 101, 32, 110, 101, 103, 97, 116, 105, 118, 101])))),
  ⟨none, .pan (.t 11), none⟩]) .skip))
 (.seq (.ops [(I 13 (.mv (.t 0))), (I 14 (.len (.t 13))), (I 15 (.cvi .u64 (.t 14))), (I 16 (.mv (.t 1))), (I 17 (.cvi .u64 (.t 16))), (I 18 (.call 166 [(.t 15), (.t 17)])), (I 12 (.mv (.t 18))), (I 19 (.ext 0 (.t 12))), (I 20 (.ext 1 (.t 12))), (I 5 (.mv (.t 19))), (I 6 (.mv (.t 20)))])
 (.seq (.seq (.ops [(I 21 (.mv (.t 5))), (I 22 (.bin .gtr (.t 21) (.k (.int .u64 0)))), (I 23 (.mv (.t 22))),
  ⟨some 24, .mv (.t 6), some (23, false)⟩,
  ⟨some 25, .bin .gtr (.t 24) (.k (.int .u64 9223372036854775807)), some (23, false)⟩, (I 26 (.pick (.t 23) (.k (.bool true)) (.t 25)))])
 (.cond (.t 26) (.ops [(I 27 (.mkif 0 (.k (.str [116, 104, 101, 32, 114, 101, 115, 117, 108, 116, 32, 111, 102, 32, 40, 108, 101, 110, 40, 120, 41, 32, 42, 32, 99, 111, 117, 110, 116, 41, 32, 111, 118, 101, 114, 102, 108, 111, 119, 115])))),
  ⟨none, .pan (.t 27), none⟩]) .skip))
 (.seq (.ops [(I 28 (.mv (.t 6))), (I 29 (.cvi .i64 (.t 28))), (I 30 (.mks 1 (.int .i64 0) (.t 29))), (I 7 (.mv (.t 30)))])
 (.seq (.ops [(I 31 (.mv (.t 7))), (I 32 (.mv (.t 0))), (I 33 (.cpy 1 (.t 31) (.t 32))), (I 8 (.mv (.t 33)))])
 (.seq (.block 0 (.loop [7, 8] (.seq (.seq (.ops [(I 34 (.mv (.t 8))), (I 35 (.mv (.t 7))), (I 36 (.len (.t 35))), (I 37 (.bin .lss (.t 34) (.t 36)))])
 (.cond (.t 37) .skip (.exit 0)))
 (.block 1 (.dops [(I 38 (.mv (.t 8))), (I 39 (.mv (.t 7))), (I 40 (.mv (.t 8))), (I 41 (.sl 1 (.t 39) (some (.t 40)) none none)), (I 42 (.mv (.t 7))), (I 43 (.mv (.t 8))), (I 44 (.sl 1 (.t 42) none (some (.t 43)) none)), (I 45 (.cpy 1 (.t 41) (.t 44))), (I 46 (.bin .add (.t 38) (.t 45))), (I 8 (.mv (.t 46)))])))))
 (.seq (.ops [(I 47 (.mv (.t 7))), (I 4 (.mv (.t 47)))])
 .ret)))))))), [.tmp 4], false⟩
/-- slices.Reverse[[]byte,byte] -/
def a173 : AFn := ⟨1, (.seq (.ops [(I 4 (.mv (.t 0))), (I 5 (.len (.t 4))), (I 6 (.bin .sub (.t 5) (.k (.int .i64 1)))), (I 2 (.mv (.k (.int .i64 0)))), (I 3 (.mv (.t 6)))])
 (.block 0 (.loop [0, 2, 3] (.seq (.seq (.ops [(I 7 (.mv (.t 2))), (I 8 (.mv (.t 3))), (I 9 (.bin .lss (.t 7) (.t 8)))])
 (.cond (.t 9) .skip (.exit 0)))
 (.seq (.block 1 (.dops [(I 14 (.mv (.t 0))), (I 15 (.mv (.t 2))), (I 16 (.mv (.t 0))), (I 17 (.mv (.t 3))), (I 18 (.mv (.t 0))), (I 19 (.mv (.t 3))), (I 20 (.ix 1 (.t 18) (.t 19))), (I 21 (.ld 1 false (.t 20))), (I 22 (.mv (.t 0))), (I 23 (.mv (.t 2))), (I 24 (.ix 1 (.t 22) (.t 23))), (I 25 (.ld 1 false (.t 24))), (I 26 (.ix 1 (.t 14) (.t 15))),
  ⟨none, .st 1 (.t 26) (.t 21), none⟩, (I 27 (.ix 1 (.t 16) (.t 17))),
  ⟨none, .st 1 (.t 27) (.t 25), none⟩]))
 (.ops [(I 10 (.mv (.t 2))), (I 11 (.bin .add (.t 10) (.k (.int .i64 1)))), (I 12 (.mv (.t 3))), (I 13 (.bin .sub (.t 12) (.k (.int .i64 1)))), (I 2 (.mv (.t 11))), (I 3 (.mv (.t 13)))])))))), [], false⟩
/-- slices.pdqsortCmpFunc[[2]int] -/
def a174 : AFn := ⟨5, (.seq (.ops [(I 10 (.mv (.k (.bool true))))])
 (.seq (.ops [(I 11 (.mv (.k (.bool true))))])
 (.block 0 (.loop [0, 1, 2, 3, 4, 10, 11, 70, 73, 74, 84, 85, 86, 87, 88, 89, 90, 91, 92, 93, 94, 95, 96] (.block 1 (.seq (.ops [(I 21 (.mv (.t 2))), (I 22 (.mv (.t 1))), (I 23 (.bin .sub (.t 21) (.t 22))), (I 12 (.mv (.t 23)))])
 (.seq (.seq (.ops [(I 24 (.mv (.t 12))), (I 25 (.bin .leq (.t 24) (.k (.int .i64 12))))])
 (.cond (.t 25) (.seq (.ops [(I 26 (.mv (.t 0))), (I 27 (.mv (.t 1))), (I 28 (.mv (.t 2))), (I 29 (.mv (.t 4))), (I 30 (.call 177 [(.t 26), (.t 27), (.t 28), (.t 29)]))])
 .ret) .skip))
 (.seq (.seq (.ops [(I 31 (.mv (.t 3))), (I 32 (.bin .eql (.t 31) (.k (.int .i64 0))))])
 (.cond (.t 32) (.seq (.ops [(I 33 (.mv (.t 0))), (I 34 (.mv (.t 1))), (I 35 (.mv (.t 2))), (I 36 (.mv (.t 4))), (I 37 (.call 223 [(.t 33), (.t 34), (.t 35), (.t 36)]))])
 .ret) .skip))
 (.seq (.seq (.ops [(I 38 (.mv (.t 10))), (I 39 (.un .not (.t 38)))])
 (.cond (.t 39) (.seq (.ops [(I 40 (.mv (.t 0))), (I 41 (.mv (.t 1))), (I 42 (.mv (.t 2))), (I 43 (.mv (.t 4))), (I 44 (.call 219 [(.t 40), (.t 41), (.t 42), (.t 43)]))])
 (.ops [(I 45 (.mv (.t 3))), (I 46 (.bin .sub (.t 45) (.k (.int .i64 1)))), (I 3 (.mv (.t 46)))])) .skip))
 (.seq (.ops [(I 48 (.mv (.t 0))), (I 49 (.mv (.t 1))), (I 50 (.mv (.t 2))), (I 51 (.mv (.t 4))), (I 52 (.call 221 [(.t 48), (.t 49), (.t 50), (.t 51)])), (I 47 (.mv (.t 52))), (I 53 (.ext 0 (.t 47))), (I 54 (.ext 1 (.t 47))), (I 13 (.mv (.t 53))), (I 14 (.mv (.t 54)))])
 (.seq (.seq (.ops [(I 55 (.mv (.t 14))), (I 56 (.bin .eql (.t 55) (.k (.int .i64 2))))])
 (.cond (.t 56) (.seq (.ops [(I 57 (.mv (.t 0))), (I 58 (.mv (.t 1))), (I 59 (.mv (.t 2))), (I 60 (.mv (.t 4))), (I 61 (.call 231 [(.t 57), (.t 58), (.t 59), (.t 60)]))])
 (.seq (.ops [(I 62 (.mv (.t 2))), (I 63 (.bin .sub (.t 62) (.k (.int .i64 1)))), (I 64 (.mv (.t 13))), (I 65 (.mv (.t 1))), (I 66 (.bin .sub (.t 64) (.t 65))), (I 67 (.bin .sub (.t 63) (.t 66))), (I 13 (.mv (.t 67)))])
 (.ops [(I 14 (.mv (.k (.int .i64 1))))]))) .skip))
 (.seq (.seq (.ops [(I 68 (.mv (.t 10))), (I 69 (.mv (.t 68))),
  ⟨some 70, .mv (.t 11), some (69, true)⟩, (I 71 (.pick (.t 69) (.t 70) (.k (.bool false)))), (I 72 (.mv (.t 71))),
  ⟨some 73, .mv (.t 14), some (72, true)⟩,
  ⟨some 74, .bin .eql (.t 73) (.k (.int .i64 1)), some (72, true)⟩, (I 75 (.pick (.t 72) (.t 74) (.k (.bool false))))])
 (.cond (.t 75) (.seq (.ops [(I 76 (.mv (.t 0))), (I 77 (.mv (.t 1))), (I 78 (.mv (.t 2))), (I 79 (.mv (.t 4))), (I 80 (.call 225 [(.t 76), (.t 77), (.t 78), (.t 79)]))])
 (.cond (.t 80) .ret .skip)) .skip))
 (.seq (.seq (.dops [(I 81 (.mv (.t 1))), (I 82 (.bin .gtr (.t 81) (.k (.int .i64 0)))), (I 83 (.mv (.t 82))),
  ⟨some 84, .mv (.t 4), some (83, true)⟩,
  ⟨some 85, .mv (.t 0), some (83, true)⟩,
  ⟨some 86, .mv (.t 1), some (83, true)⟩,
  ⟨some 87, .bin .sub (.t 86) (.k (.int .i64 1)), some (83, true)⟩,
  ⟨some 88, .ix 2 (.t 85) (.t 87), some (83, true)⟩,
  ⟨some 89, .ld 2 true (.t 88), some (83, true)⟩,
  ⟨some 90, .mv (.t 0), some (83, true)⟩,
  ⟨some 91, .mv (.t 13), some (83, true)⟩,
  ⟨some 92, .ix 2 (.t 90) (.t 91), some (83, true)⟩,
  ⟨some 93, .ld 2 true (.t 92), some (83, true)⟩,
  ⟨some 94, .callv (.t 84) [(.t 89), (.t 93)], some (83, true)⟩,
  ⟨some 95, .bin .lss (.t 94) (.k (.int .i64 0)), some (83, true)⟩,
  ⟨some 96, .un .not (.t 95), some (83, true)⟩, (I 97 (.pick (.t 83) (.t 96) (.k (.bool false))))])
 (.cond (.t 97) (.seq (.ops [(I 98 (.mv (.t 0))), (I 99 (.mv (.t 1))), (I 100 (.mv (.t 2))), (I 101 (.mv (.t 13))), (I 102 (.mv (.t 4))), (I 103 (.call 229 [(.t 98), (.t 99), (.t 100), (.t 101), (.t 102)])), (I 15 (.mv (.t 103)))])
 (.seq (.ops [(I 104 (.mv (.t 15))), (I 1 (.mv (.t 104)))])
 (.exit 1))) .skip))
 (.seq (.ops [(I 106 (.mv (.t 0))), (I 107 (.mv (.t 1))), (I 108 (.mv (.t 2))), (I 109 (.mv (.t 13))), (I 110 (.mv (.t 4))), (I 111 (.call 227 [(.t 106), (.t 107), (.t 108), (.t 109), (.t 110)])), (I 105 (.mv (.t 111))), (I 112 (.ext 0 (.t 105))), (I 113 (.ext 1 (.t 105))), (I 16 (.mv (.t 112))), (I 17 (.mv (.t 113)))])
 (.seq (.ops [(I 114 (.mv (.t 17))), (I 11 (.mv (.t 114)))])
 (.seq (.ops [(I 115 (.mv (.t 16))), (I 116 (.mv (.t 1))), (I 117 (.bin .sub (.t 115) (.t 116))), (I 118 (.mv (.t 2))), (I 119 (.mv (.t 16))), (I 120 (.bin .sub (.t 118) (.t 119))), (I 18 (.mv (.t 117))), (I 19 (.mv (.t 120)))])
 (.seq (.ops [(I 121 (.mv (.t 12))), (I 122 (.bin .quo (.t 121) (.k (.int .i64 8)))), (I 20 (.mv (.t 122)))])
 (.seq (.ops [(I 123 (.mv (.t 18))), (I 124 (.mv (.t 19))), (I 125 (.bin .lss (.t 123) (.t 124)))])
 (.cond (.t 125) (.seq (.ops [(I 126 (.mv (.t 18))), (I 127 (.mv (.t 20))), (I 128 (.bin .geq (.t 126) (.t 127))), (I 10 (.mv (.t 128)))])
 (.seq (.ops [(I 129 (.mv (.t 0))), (I 130 (.mv (.t 1))), (I 131 (.mv (.t 16))), (I 132 (.mv (.t 3))), (I 133 (.mv (.t 4))), (I 134 (.call 174 [(.t 129), (.t 130), (.t 131), (.t 132), (.t 133)]))])
 (.ops [(I 135 (.mv (.t 16))), (I 136 (.bin .add (.t 135) (.k (.int .i64 1)))), (I 1 (.mv (.t 136)))]))) (.seq (.ops [(I 137 (.mv (.t 19))), (I 138 (.mv (.t 20))), (I 139 (.bin .geq (.t 137) (.t 138))), (I 10 (.mv (.t 139)))])
 (.seq (.ops [(I 140 (.mv (.t 0))), (I 141 (.mv (.t 16))), (I 142 (.bin .add (.t 141) (.k (.int .i64 1)))), (I 143 (.mv (.t 2))), (I 144 (.mv (.t 3))), (I 145 (.mv (.t 4))), (I 146 (.call 174 [(.t 140), (.t 142), (.t 143), (.t 144), (.t 145)]))])
 (.ops [(I 147 (.mv (.t 16))), (I 2 (.mv (.t 147)))])))))))))))))))))))))), [], false⟩
/-- slices.pdqsortCmpFunc[eyot/api.Item] -/
def a175 : AFn := ⟨5, (.seq (.ops [(I 10 (.mv (.k (.bool true))))])
 (.seq (.ops [(I 11 (.mv (.k (.bool true))))])
 (.block 0 (.loop [0, 1, 2, 3, 4, 10, 11, 70, 73, 74, 84, 85, 86, 87, 88, 89, 90, 91, 92, 93, 94, 95, 96] (.block 1 (.seq (.ops [(I 21 (.mv (.t 2))), (I 22 (.mv (.t 1))), (I 23 (.bin .sub (.t 21) (.t 22))), (I 12 (.mv (.t 23)))])
 (.seq (.seq (.ops [(I 24 (.mv (.t 12))), (I 25 (.bin .leq (.t 24) (.k (.int .i64 12))))])
 (.cond (.t 25) (.seq (.ops [(I 26 (.mv (.t 0))), (I 27 (.mv (.t 1))), (I 28 (.mv (.t 2))), (I 29 (.mv (.t 4))), (I 30 (.call 178 [(.t 26), (.t 27), (.t 28), (.t 29)]))])
 .ret) .skip))
 (.seq (.seq (.ops [(I 31 (.mv (.t 3))), (I 32 (.bin .eql (.t 31) (.k (.int .i64 0))))])
 (.cond (.t 32) (.seq (.ops [(I 33 (.mv (.t 0))), (I 34 (.mv (.t 1))), (I 35 (.mv (.t 2))), (I 36 (.mv (.t 4))), (I 37 (.call 224 [(.t 33), (.t 34), (.t 35), (.t 36)]))])
 .ret) .skip))
 (.seq (.seq (.ops [(I 38 (.mv (.t 10))), (I 39 (.un .not (.t 38)))])
 (.cond (.t 39) (.seq (.ops [(I 40 (.mv (.t 0))), (I 41 (.mv (.t 1))), (I 42 (.mv (.t 2))), (I 43 (.mv (.t 4))), (I 44 (.call 220 [(.t 40), (.t 41), (.t 42), (.t 43)]))])
 (.ops [(I 45 (.mv (.t 3))), (I 46 (.bin .sub (.t 45) (.k (.int .i64 1)))), (I 3 (.mv (.t 46)))])) .skip))
 (.seq (.ops [(I 48 (.mv (.t 0))), (I 49 (.mv (.t 1))), (I 50 (.mv (.t 2))), (I 51 (.mv (.t 4))), (I 52 (.call 222 [(.t 48), (.t 49), (.t 50), (.t 51)])), (I 47 (.mv (.t 52))), (I 53 (.ext 0 (.t 47))), (I 54 (.ext 1 (.t 47))), (I 13 (.mv (.t 53))), (I 14 (.mv (.t 54)))])
 (.seq (.seq (.ops [(I 55 (.mv (.t 14))), (I 56 (.bin .eql (.t 55) (.k (.int .i64 2))))])
 (.cond (.t 56) (.seq (.ops [(I 57 (.mv (.t 0))), (I 58 (.mv (.t 1))), (I 59 (.mv (.t 2))), (I 60 (.mv (.t 4))), (I 61 (.call 232 [(.t 57), (.t 58), (.t 59), (.t 60)]))])
 (.seq (.ops [(I 62 (.mv (.t 2))), (I 63 (.bin .sub (.t 62) (.k (.int .i64 1)))), (I 64 (.mv (.t 13))), (I 65 (.mv (.t 1))), (I 66 (.bin .sub (.t 64) (.t 65))), (I 67 (.bin .sub (.t 63) (.t 66))), (I 13 (.mv (.t 67)))])
 (.ops [(I 14 (.mv (.k (.int .i64 1))))]))) .skip))
 (.seq (.seq (.ops [(I 68 (.mv (.t 10))), (I 69 (.mv (.t 68))),
  ⟨some 70, .mv (.t 11), some (69, true)⟩, (I 71 (.pick (.t 69) (.t 70) (.k (.bool false)))), (I 72 (.mv (.t 71))),
  ⟨some 73, .mv (.t 14), some (72, true)⟩,
  ⟨some 74, .bin .eql (.t 73) (.k (.int .i64 1)), some (72, true)⟩, (I 75 (.pick (.t 72) (.t 74) (.k (.bool false))))])
 (.cond (.t 75) (.seq (.ops [(I 76 (.mv (.t 0))), (I 77 (.mv (.t 1))), (I 78 (.mv (.t 2))), (I 79 (.mv (.t 4))), (I 80 (.call 226 [(.t 76), (.t 77), (.t 78), (.t 79)]))])
 (.cond (.t 80) .ret .skip)) .skip))
 (.seq (.seq (.dops [(I 81 (.mv (.t 1))), (I 82 (.bin .gtr (.t 81) (.k (.int .i64 0)))), (I 83 (.mv (.t 82))),
  ⟨some 84, .mv (.t 4), some (83, true)⟩,
  ⟨some 85, .mv (.t 0), some (83, true)⟩,
  ⟨some 86, .mv (.t 1), some (83, true)⟩,
  ⟨some 87, .bin .sub (.t 86) (.k (.int .i64 1)), some (83, true)⟩,
  ⟨some 88, .ix 3 (.t 85) (.t 87), some (83, true)⟩,
  ⟨some 89, .ld 3 true (.t 88), some (83, true)⟩,
  ⟨some 90, .mv (.t 0), some (83, true)⟩,
  ⟨some 91, .mv (.t 13), some (83, true)⟩,
  ⟨some 92, .ix 3 (.t 90) (.t 91), some (83, true)⟩,
  ⟨some 93, .ld 3 true (.t 92), some (83, true)⟩,
  ⟨some 94, .callv (.t 84) [(.t 89), (.t 93)], some (83, true)⟩,
  ⟨some 95, .bin .lss (.t 94) (.k (.int .i64 0)), some (83, true)⟩,
  ⟨some 96, .un .not (.t 95), some (83, true)⟩, (I 97 (.pick (.t 83) (.t 96) (.k (.bool false))))])
 (.cond (.t 97) (.seq (.ops [(I 98 (.mv (.t 0))), (I 99 (.mv (.t 1))), (I 100 (.mv (.t 2))), (I 101 (.mv (.t 13))), (I 102 (.mv (.t 4))), (I 103 (.call 230 [(.t 98), (.t 99), (.t 100), (.t 101), (.t 102)])), (I 15 (.mv (.t 103)))])
 (.seq (.ops [(I 104 (.mv (.t 15))), (I 1 (.mv (.t 104)))])
 (.exit 1))) .skip))
 (.seq (.ops [(I 106 (.mv (.t 0))), (I 107 (.mv (.t 1))), (I 108 (.mv (.t 2))), (I 109 (.mv (.t 13))), (I 110 (.mv (.t 4))), (I 111 (.call 228 [(.t 106), (.t 107), (.t 108), (.t 109), (.t 110)])), (I 105 (.mv (.t 111))), (I 112 (.ext 0 (.t 105))), (I 113 (.ext 1 (.t 105))), (I 16 (.mv (.t 112))), (I 17 (.mv (.t 113)))])
 (.seq (.ops [(I 114 (.mv (.t 17))), (I 11 (.mv (.t 114)))])
 (.seq (.ops [(I 115 (.mv (.t 16))), (I 116 (.mv (.t 1))), (I 117 (.bin .sub (.t 115) (.t 116))), (I 118 (.mv (.t 2))), (I 119 (.mv (.t 16))), (I 120 (.bin .sub (.t 118) (.t 119))), (I 18 (.mv (.t 117))), (I 19 (.mv (.t 120)))])
 (.seq (.ops [(I 121 (.mv (.t 12))), (I 122 (.bin .quo (.t 121) (.k (.int .i64 8)))), (I 20 (.mv (.t 122)))])
 (.seq (.ops [(I 123 (.mv (.t 18))), (I 124 (.mv (.t 19))), (I 125 (.bin .lss (.t 123) (.t 124)))])
 (.cond (.t 125) (.seq (.ops [(I 126 (.mv (.t 18))), (I 127 (.mv (.t 20))), (I 128 (.bin .geq (.t 126) (.t 127))), (I 10 (.mv (.t 128)))])
 (.seq (.ops [(I 129 (.mv (.t 0))), (I 130 (.mv (.t 1))), (I 131 (.mv (.t 16))), (I 132 (.mv (.t 3))), (I 133 (.mv (.t 4))), (I 134 (.call 175 [(.t 129), (.t 130), (.t 131), (.t 132), (.t 133)]))])
 (.ops [(I 135 (.mv (.t 16))), (I 136 (.bin .add (.t 135) (.k (.int .i64 1)))), (I 1 (.mv (.t 136)))]))) (.seq (.ops [(I 137 (.mv (.t 19))), (I 138 (.mv (.t 20))), (I 139 (.bin .geq (.t 137) (.t 138))), (I 10 (.mv (.t 139)))])
 (.seq (.ops [(I 140 (.mv (.t 0))), (I 141 (.mv (.t 16))), (I 142 (.bin .add (.t 141) (.k (.int .i64 1)))), (I 143 (.mv (.t 2))), (I 144 (.mv (.t 3))), (I 145 (.mv (.t 4))), (I 146 (.call 175 [(.t 140), (.t 142), (.t 143), (.t 144), (.t 145)]))])
 (.ops [(I 147 (.mv (.t 16))), (I 2 (.mv (.t 147)))])))))))))))))))))))))), [], false⟩
/-- slices.SortFunc[[]eyot/api.Item,eyot/api.Item] -/
def a176 : AFn := ⟨2, (.seq (.ops [(I 5 (.mv (.t 0))), (I 6 (.len (.t 5))), (I 4 (.mv (.t 6)))])
 (.ops [(I 7 (.mv (.t 0))), (I 8 (.mv (.t 4))), (I 9 (.mv (.t 4))), (I 10 (.cvi .u64 (.t 9))), (I 11 (.call 32 [(.t 10)])), (I 12 (.mv (.t 1))), (I 13 (.call 175 [(.t 7), (.k (.int .i64 0)), (.t 8), (.t 11), (.t 12)]))])), [], false⟩
/-- slices.insertionSortCmpFunc[[2]int] -/
def a177 : AFn := ⟨4, (.seq (.ops [(I 10 (.mv (.t 1))), (I 11 (.bin .add (.t 10) (.k (.int .i64 1)))), (I 8 (.mv (.t 11)))])
 (.block 0 (.loop [0, 1, 2, 3, 8, 22, 23, 24, 25, 26, 27, 28, 29, 30, 31, 32, 33] (.seq (.seq (.ops [(I 12 (.mv (.t 8))), (I 13 (.mv (.t 2))), (I 14 (.bin .lss (.t 12) (.t 13)))])
 (.cond (.t 14) .skip (.exit 0)))
 (.seq (.block 1 (.seq (.ops [(I 17 (.mv (.t 8))), (I 9 (.mv (.t 17)))])
 (.block 2 (.loop [0, 1, 2, 3, 8, 9, 22, 23, 24, 25, 26, 27, 28, 29, 30, 31, 32, 33] (.seq (.seq (.dops [(I 18 (.mv (.t 9))), (I 19 (.mv (.t 1))), (I 20 (.bin .gtr (.t 18) (.t 19))), (I 21 (.mv (.t 20))),
  ⟨some 22, .mv (.t 3), some (21, true)⟩,
  ⟨some 23, .mv (.t 0), some (21, true)⟩,
  ⟨some 24, .mv (.t 9), some (21, true)⟩,
  ⟨some 25, .ix 2 (.t 23) (.t 24), some (21, true)⟩,
  ⟨some 26, .ld 2 true (.t 25), some (21, true)⟩,
  ⟨some 27, .mv (.t 0), some (21, true)⟩,
  ⟨some 28, .mv (.t 9), some (21, true)⟩,
  ⟨some 29, .bin .sub (.t 28) (.k (.int .i64 1)), some (21, true)⟩,
  ⟨some 30, .ix 2 (.t 27) (.t 29), some (21, true)⟩,
  ⟨some 31, .ld 2 true (.t 30), some (21, true)⟩,
  ⟨some 32, .callv (.t 22) [(.t 26), (.t 31)], some (21, true)⟩,
  ⟨some 33, .bin .lss (.t 32) (.k (.int .i64 0)), some (21, true)⟩, (I 34 (.pick (.t 21) (.t 33) (.k (.bool false))))])
 (.cond (.t 34) .skip (.exit 2)))
 (.seq (.block 3 (.dops [(I 37 (.mv (.t 0))), (I 38 (.mv (.t 9))), (I 39 (.mv (.t 0))), (I 40 (.mv (.t 9))), (I 41 (.bin .sub (.t 40) (.k (.int .i64 1)))), (I 42 (.mv (.t 0))), (I 43 (.mv (.t 9))), (I 44 (.bin .sub (.t 43) (.k (.int .i64 1)))), (I 45 (.ix 2 (.t 42) (.t 44))), (I 46 (.ld 2 true (.t 45))), (I 47 (.mv (.t 0))), (I 48 (.mv (.t 9))), (I 49 (.ix 2 (.t 47) (.t 48))), (I 50 (.ld 2 true (.t 49))), (I 51 (.ix 2 (.t 37) (.t 38))),
  ⟨none, .st 2 (.t 51) (.t 46), none⟩, (I 52 (.ix 2 (.t 39) (.t 41))),
  ⟨none, .st 2 (.t 52) (.t 50), none⟩]))
 (.ops [(I 35 (.mv (.t 9))), (I 36 (.bin .sub (.t 35) (.k (.int .i64 1)))), (I 9 (.mv (.t 36)))])))))))
 (.ops [(I 15 (.mv (.t 8))), (I 16 (.bin .add (.t 15) (.k (.int .i64 1)))), (I 8 (.mv (.t 16)))])))))), [], false⟩
/-- slices.insertionSortCmpFunc[eyot/api.Item] -/
def a178 : AFn := ⟨4, (.seq (.ops [(I 10 (.mv (.t 1))), (I 11 (.bin .add (.t 10) (.k (.int .i64 1)))), (I 8 (.mv (.t 11)))])
 (.block 0 (.loop [0, 1, 2, 3, 8, 22, 23, 24, 25, 26, 27, 28, 29, 30, 31, 32, 33] (.seq (.seq (.ops [(I 12 (.mv (.t 8))), (I 13 (.mv (.t 2))), (I 14 (.bin .lss (.t 12) (.t 13)))])
 (.cond (.t 14) .skip (.exit 0)))
 (.seq (.block 1 (.seq (.ops [(I 17 (.mv (.t 8))), (I 9 (.mv (.t 17)))])
 (.block 2 (.loop [0, 1, 2, 3, 8, 9, 22, 23, 24, 25, 26, 27, 28, 29, 30, 31, 32, 33] (.seq (.seq (.dops [(I 18 (.mv (.t 9))), (I 19 (.mv (.t 1))), (I 20 (.bin .gtr (.t 18) (.t 19))), (I 21 (.mv (.t 20))),
  ⟨some 22, .mv (.t 3), some (21, true)⟩,
  ⟨some 23, .mv (.t 0), some (21, true)⟩,
  ⟨some 24, .mv (.t 9), some (21, true)⟩,
  ⟨some 25, .ix 3 (.t 23) (.t 24), some (21, true)⟩,
  ⟨some 26, .ld 3 true (.t 25), some (21, true)⟩,
  ⟨some 27, .mv (.t 0), some (21, true)⟩,
  ⟨some 28, .mv (.t 9), some (21, true)⟩,
  ⟨some 29, .bin .sub (.t 28) (.k (.int .i64 1)), some (21, true)⟩,
  ⟨some 30, .ix 3 (.t 27) (.t 29), some (21, true)⟩,
  ⟨some 31, .ld 3 true (.t 30), some (21, true)⟩,
  ⟨some 32, .callv (.t 22) [(.t 26), (.t 31)], some (21, true)⟩,
  ⟨some 33, .bin .lss (.t 32) (.k (.int .i64 0)), some (21, true)⟩, (I 34 (.pick (.t 21) (.t 33) (.k (.bool false))))])
 (.cond (.t 34) .skip (.exit 2)))
 (.seq (.block 3 (.dops [(I 37 (.mv (.t 0))), (I 38 (.mv (.t 9))), (I 39 (.mv (.t 0))), (I 40 (.mv (.t 9))), (I 41 (.bin .sub (.t 40) (.k (.int .i64 1)))), (I 42 (.mv (.t 0))), (I 43 (.mv (.t 9))), (I 44 (.bin .sub (.t 43) (.k (.int .i64 1)))), (I 45 (.ix 3 (.t 42) (.t 44))), (I 46 (.ld 3 true (.t 45))), (I 47 (.mv (.t 0))), (I 48 (.mv (.t 9))), (I 49 (.ix 3 (.t 47) (.t 48))), (I 50 (.ld 3 true (.t 49))), (I 51 (.ix 3 (.t 37) (.t 38))),
  ⟨none, .st 3 (.t 51) (.t 46), none⟩, (I 52 (.ix 3 (.t 39) (.t 41))),
  ⟨none, .st 3 (.t 52) (.t 50), none⟩]))
 (.ops [(I 35 (.mv (.t 9))), (I 36 (.bin .sub (.t 35) (.k (.int .i64 1)))), (I 9 (.mv (.t 36)))])))))))
 (.ops [(I 15 (.mv (.t 8))), (I 16 (.bin .add (.t 15) (.k (.int .i64 1)))), (I 8 (.mv (.t 16)))])))))), [], false⟩
/-- strings.Index -/
def a179 : AFn := ⟨2, (.seq (.ops [(I 4 (.mv (.k (.int .i64 0))))])
 (.seq (.ops [(I 5 (.mv (.t 0))), (I 6 (.mv (.t 1))), (I 7 (.call 181 [(.t 5), (.t 6)])), (I 4 (.mv (.t 7)))])
 .ret)), [.tmp 4], true⟩
/-- strings.Count -/
def a180 : AFn := ⟨2, (.seq (.ops [(I 4 (.mv (.k (.int .i64 0))))])
 (.seq (.seq (.ops [(I 7 (.mv (.t 1))), (I 8 (.lns (.t 7))), (I 9 (.bin .eql (.t 8) (.k (.int .i64 0))))])
 (.cond (.t 9) (.seq (.ops [(I 10 (.mv (.t 0))), (I 11 (.call 234 [(.t 10)])), (I 12 (.bin .add (.t 11) (.k (.int .i64 1)))), (I 4 (.mv (.t 12)))])
 .ret) .skip))
 (.seq (.seq (.ops [(I 13 (.mv (.t 1))), (I 14 (.lns (.t 13))), (I 15 (.bin .eql (.t 14) (.k (.int .i64 1))))])
 (.cond (.t 15) (.seq (.ops [(I 16 (.mv (.t 0))), (I 17 (.mv (.t 1))), (I 18 (.ixs (.t 17) (.k (.int .i64 0)))), (I 19 (.nat 0 [(.t 16), (.t 18)])), (I 4 (.mv (.t 19)))])
 .ret) .skip))
 (.seq (.ops [(I 5 (.mv (.k (.int .i64 0))))])
 (.block 0 (.loop [0, 1, 5] (.block 1 (.seq (.ops [(I 20 (.mv (.t 0))), (I 21 (.mv (.t 1))), (I 22 (.call 179 [(.t 20), (.t 21)])), (I 6 (.mv (.t 22)))])
 (.seq (.seq (.ops [(I 23 (.mv (.t 6))), (I 24 (.bin .eql (.t 23) (.k (.int .i64 (-1)))))])
 (.cond (.t 24) (.seq (.ops [(I 25 (.mv (.t 5))), (I 4 (.mv (.t 25)))])
 .ret) .skip))
 (.seq (.ops [(I 26 (.mv (.t 5))), (I 27 (.bin .add (.t 26) (.k (.int .i64 1)))), (I 5 (.mv (.t 27)))])
 (.ops [(I 28 (.mv (.t 0))), (I 29 (.mv (.t 6))), (I 30 (.mv (.t 1))), (I 31 (.lns (.t 30))), (I 32 (.bin .add (.t 29) (.t 31))), (I 33 (.ss (.t 28) (some (.t 32)) none)), (I 0 (.mv (.t 33)))]))))))))))), [.tmp 4], true⟩
/-- internal/stringslite.Index -/
def a181 : AFn := ⟨2, (.seq (.ops [(I 4 (.mv (.k (.int .i64 0))))])
 (.seq (.ops [(I 14 (.mv (.t 1))), (I 15 (.lns (.t 14))), (I 5 (.mv (.t 15)))])
 (.seq (.block 0 (.seq (.ops [(I 17 (.mv (.t 5))), (I 18 (.bin .eql (.t 17) (.k (.int .i64 0)))), (I 19 (.mv (.t 18))),
  ⟨some 20, .mv (.t 1), some (19, false)⟩,
  ⟨some 21, .mv (.t 0), some (19, false)⟩,
  ⟨some 22, .bin .eql (.t 20) (.t 21), some (19, false)⟩, (I 23 (.pick (.t 19) (.k (.bool true)) (.t 22))), (I 16 (.mv (.t 23)))])
 (.cond (.t 16) (.seq (.ops [(I 4 (.mv (.k (.int .i64 0))))])
 .ret) (.seq (.ops [(I 25 (.mv (.t 5))), (I 26 (.bin .eql (.t 25) (.k (.int .i64 1)))), (I 24 (.mv (.t 26)))])
 (.cond (.t 24) (.seq (.ops [(I 27 (.mv (.t 0))), (I 28 (.mv (.t 1))), (I 29 (.ixs (.t 28) (.k (.int .i64 0)))), (I 30 (.call 164 [(.t 27), (.t 29)])), (I 4 (.mv (.t 30)))])
 .ret) (.seq (.ops [(I 32 (.mv (.t 5))), (I 33 (.mv (.t 0))), (I 34 (.lns (.t 33))), (I 35 (.bin .geq (.t 32) (.t 34))), (I 31 (.mv (.t 35)))])
 (.cond (.t 31) (.seq (.ops [(I 4 (.mv (.k (.int .i64 (-1)))))])
 .ret) (.seq (.ops [(I 37 (.mv (.t 5))), (I 38 .bad), (I 39 (.bin .leq (.t 37) (.t 38))), (I 40 (.mv (.t 39))),
  ⟨some 41, .mv (.t 0), some (40, true)⟩,
  ⟨some 42, .lns (.t 41), some (40, true)⟩,
  ⟨some 43, .bin .leq (.t 42) (.k (.int .i64 64)), some (40, true)⟩, (I 44 (.pick (.t 40) (.t 43) (.k (.bool false)))), (I 36 (.mv (.t 44)))])
 (.cond (.t 36) (.seq (.ops [(I 45 (.mv (.t 0))), (I 46 (.mv (.t 1))), (I 47 .bad), (I 4 (.mv (.t 47)))])
 .ret) .skip)))))))))
 (.seq (.ops [(I 48 (.mv (.t 1))), (I 49 (.ixs (.t 48) (.k (.int .i64 0)))), (I 6 (.mv (.t 49)))])
 (.seq (.ops [(I 50 (.mv (.t 1))), (I 51 (.ixs (.t 50) (.k (.int .i64 1)))), (I 7 (.mv (.t 51)))])
 (.seq (.ops [(I 8 (.mv (.k (.int .i64 0))))])
 (.seq (.ops [(I 52 (.mv (.t 0))), (I 53 (.lns (.t 52))), (I 54 (.mv (.t 5))), (I 55 (.bin .sub (.t 53) (.t 54))), (I 56 (.bin .add (.t 55) (.k (.int .i64 1)))), (I 9 (.mv (.t 56)))])
 (.seq (.ops [(I 10 (.mv (.k (.int .i64 0))))])
 (.seq (.block 1 (.loop [0, 1, 5, 6, 7, 8, 9, 10, 85, 86, 87, 88, 89, 90, 91, 92, 103, 104, 105, 106, 122, 123, 124, 125, 126, 129, 130, 131] (.seq (.seq (.ops [(I 57 (.mv (.t 8))), (I 58 (.mv (.t 9))), (I 59 (.bin .lss (.t 57) (.t 58)))])
 (.cond (.t 59) .skip (.exit 1)))
 (.block 2 (.seq (.seq (.ops [(I 60 (.mv (.t 0))), (I 61 (.mv (.t 8))), (I 62 (.ixs (.t 60) (.t 61))), (I 63 (.mv (.t 6))), (I 64 (.bin .neq (.t 62) (.t 63)))])
 (.cond (.t 64) (.seq (.ops [(I 65 (.mv (.t 0))), (I 66 (.mv (.t 8))), (I 67 (.bin .add (.t 66) (.k (.int .i64 1)))), (I 68 (.mv (.t 9))), (I 69 (.ss (.t 65) (some (.t 67)) (some (.t 68)))), (I 70 (.mv (.t 6))), (I 71 (.call 164 [(.t 69), (.t 70)])), (I 11 (.mv (.t 71)))])
 (.seq (.seq (.ops [(I 72 (.mv (.t 11))), (I 73 (.bin .lss (.t 72) (.k (.int .i64 0))))])
 (.cond (.t 73) (.seq (.ops [(I 4 (.mv (.k (.int .i64 (-1)))))])
 .ret) .skip))
 (.ops [(I 74 (.mv (.t 8))), (I 75 (.mv (.t 11))), (I 76 (.bin .add (.t 75) (.k (.int .i64 1)))), (I 77 (.bin .add (.t 74) (.t 76))), (I 8 (.mv (.t 77)))]))) .skip))
 (.seq (.seq (.ops [(I 78 (.mv (.t 0))), (I 79 (.mv (.t 8))), (I 80 (.bin .add (.t 79) (.k (.int .i64 1)))), (I 81 (.ixs (.t 78) (.t 80))), (I 82 (.mv (.t 7))), (I 83 (.bin .eql (.t 81) (.t 82))), (I 84 (.mv (.t 83))),
  ⟨some 85, .mv (.t 0), some (84, true)⟩,
  ⟨some 86, .mv (.t 8), some (84, true)⟩,
  ⟨some 87, .mv (.t 8), some (84, true)⟩,
  ⟨some 88, .mv (.t 5), some (84, true)⟩,
  ⟨some 89, .bin .add (.t 87) (.t 88), some (84, true)⟩,
  ⟨some 90, .ss (.t 85) (some (.t 86)) (some (.t 89)), some (84, true)⟩,
  ⟨some 91, .mv (.t 1), some (84, true)⟩,
  ⟨some 92, .bin .eql (.t 90) (.t 91), some (84, true)⟩, (I 93 (.pick (.t 84) (.t 92) (.k (.bool false))))])
 (.cond (.t 93) (.seq (.ops [(I 94 (.mv (.t 8))), (I 4 (.mv (.t 94)))])
 .ret) .skip))
 (.seq (.ops [(I 95 (.mv (.t 8))), (I 96 (.bin .add (.t 95) (.k (.int .i64 1)))), (I 8 (.mv (.t 96)))])
 (.seq (.ops [(I 97 (.mv (.t 10))), (I 98 (.bin .add (.t 97) (.k (.int .i64 1)))), (I 10 (.mv (.t 98)))])
 (.seq (.ops [(I 99 (.mv (.t 5))), (I 100 .bad), (I 101 (.bin .leq (.t 99) (.t 100))), (I 102 (.mv (.t 101))),
  ⟨some 103, .mv (.t 10), some (102, true)⟩,
  ⟨some 104, .mv (.t 8), some (102, true)⟩,
  ⟨some 105, .call 215 [(.t 104)], some (102, true)⟩,
  ⟨some 106, .bin .gtr (.t 103) (.t 105), some (102, true)⟩, (I 107 (.pick (.t 102) (.t 106) (.k (.bool false))))])
 (.cond (.t 107) (.seq (.ops [(I 108 (.mv (.t 0))), (I 109 (.mv (.t 8))), (I 110 (.ss (.t 108) (some (.t 109)) none)), (I 111 (.mv (.t 1))), (I 112 .bad), (I 12 (.mv (.t 112)))])
 (.seq (.seq (.ops [(I 113 (.mv (.t 12))), (I 114 (.bin .geq (.t 113) (.k (.int .i64 0))))])
 (.cond (.t 114) (.seq (.ops [(I 115 (.mv (.t 12))), (I 116 (.mv (.t 8))), (I 117 (.bin .add (.t 115) (.t 116))), (I 4 (.mv (.t 117)))])
 .ret) .skip))
 (.seq (.ops [(I 4 (.mv (.k (.int .i64 (-1)))))])
 .ret))) (.seq (.ops [(I 118 (.mv (.t 5))), (I 119 .bad), (I 120 (.bin .gtr (.t 118) (.t 119))), (I 121 (.mv (.t 120))),
  ⟨some 122, .mv (.t 10), some (121, true)⟩,
  ⟨some 123, .mv (.t 8), some (121, true)⟩,
  ⟨some 124, .bin .shr (.t 123) (.k (.int .u64 4)), some (121, true)⟩,
  ⟨some 125, .bin .add (.k (.int .i64 4)) (.t 124), some (121, true)⟩,
  ⟨some 126, .bin .geq (.t 122) (.t 125), some (121, true)⟩, (I 127 (.pick (.t 121) (.t 126) (.k (.bool false)))), (I 128 (.mv (.t 127))),
  ⟨some 129, .mv (.t 8), some (128, true)⟩,
  ⟨some 130, .mv (.t 9), some (128, true)⟩,
  ⟨some 131, .bin .lss (.t 129) (.t 130), some (128, true)⟩, (I 132 (.pick (.t 128) (.t 131) (.k (.bool false))))])
 (.cond (.t 132) (.seq (.ops [(I 133 (.mv (.t 0))), (I 134 (.mv (.t 8))), (I 135 (.ss (.t 133) (some (.t 134)) none)), (I 136 (.mv (.t 1))), (I 137 (.call 216 [(.t 135), (.t 136)])), (I 13 (.mv (.t 137)))])
 (.seq (.seq (.ops [(I 138 (.mv (.t 13))), (I 139 (.bin .lss (.t 138) (.k (.int .i64 0))))])
 (.cond (.t 139) (.seq (.ops [(I 4 (.mv (.k (.int .i64 (-1)))))])
 .ret) .skip))
 (.seq (.ops [(I 140 (.mv (.t 8))), (I 141 (.mv (.t 13))), (I 142 (.bin .add (.t 140) (.t 141))), (I 4 (.mv (.t 142)))])
 .ret))) .skip))))))))))))
 (.seq (.ops [(I 4 (.mv (.k (.int .i64 (-1)))))])
 .ret)))))))))), [.tmp 4], true⟩
/-- strings.genSplit -/
def a182 : AFn := ⟨4, (.seq (.ops [(I 8 (.mv (.k (.list true []))))])
 (.seq (.seq (.ops [(I 12 (.mv (.t 3))), (I 13 (.bin .eql (.t 12) (.k (.int .i64 0))))])
 (.cond (.t 13) (.seq (.ops [(I 8 (.mv (.k (.list true []))))])
 (.seq (.ops [⟨none, .frz (.sl .no) 8, none⟩]) .ret)) .skip))
 (.seq (.seq (.ops [(I 14 (.mv (.t 1))), (I 15 (.bin .eql (.t 14) (.k (.str []))))])
 (.cond (.t 15) (.seq (.ops [(I 16 (.mv (.t 0))), (I 17 (.mv (.t 3))), (I 18 (.call 235 [(.t 16), (.t 17)])), (I 8 (.mv (.t 18)))])
 (.seq (.ops [⟨none, .frz (.sl .no) 8, none⟩]) .ret)) .skip))
 (.seq (.seq (.ops [(I 19 (.mv (.t 3))), (I 20 (.bin .lss (.t 19) (.k (.int .i64 0))))])
 (.cond (.t 20) (.ops [(I 21 (.mv (.t 0))), (I 22 (.mv (.t 1))), (I 23 (.call 180 [(.t 21), (.t 22)])), (I 24 (.bin .add (.t 23) (.k (.int .i64 1)))), (I 3 (.mv (.t 24)))]) .skip))
 (.seq (.ops [(I 25 (.mv (.t 3))), (I 26 (.mv (.t 0))), (I 27 (.lns (.t 26))), (I 28 (.bin .add (.t 27) (.k (.int .i64 1)))), (I 29 (.mnmx false (.t 25) (.t 28))), (I 3 (.mv (.t 29)))])
 (.seq (.ops [(I 30 (.mv (.t 3))), (I 31 (.mks 1 (.str []) (.t 30))), (I 9 (.mv (.t 31)))])
 (.seq (.ops [(I 32 (.mv (.t 3))), (I 33 (.bin .sub (.t 32) (.k (.int .i64 1)))), (I 3 (.mv (.t 33)))])
 (.seq (.ops [(I 10 (.mv (.k (.int .i64 0))))])
 (.seq (.block 0 (.loop [0, 1, 2, 3, 9, 10] (.seq (.seq (.ops [(I 34 (.mv (.t 10))), (I 35 (.mv (.t 3))), (I 36 (.bin .lss (.t 34) (.t 35)))])
 (.cond (.t 36) .skip (.exit 0)))
 (.block 1 (.seq (.ops [(I 37 (.mv (.t 0))), (I 38 (.mv (.t 1))), (I 39 (.call 179 [(.t 37), (.t 38)])), (I 11 (.mv (.t 39)))])
 (.seq (.seq (.ops [(I 40 (.mv (.t 11))), (I 41 (.bin .lss (.t 40) (.k (.int .i64 0))))])
 (.cond (.t 41) (.exit 0) .skip))
 (.seq (.ops [(I 42 (.mv (.t 9))), (I 43 (.mv (.t 10))), (I 44 (.mv (.t 0))), (I 45 (.mv (.t 11))), (I 46 (.mv (.t 2))), (I 47 (.bin .add (.t 45) (.t 46))), (I 48 (.ss (.t 44) none (some (.t 47)))), (I 49 (.ix 1 (.t 42) (.t 43))),
  ⟨none, .st 1 (.t 49) (.t 48), none⟩])
 (.seq (.ops [(I 50 (.mv (.t 0))), (I 51 (.mv (.t 11))), (I 52 (.mv (.t 1))), (I 53 (.lns (.t 52))), (I 54 (.bin .add (.t 51) (.t 53))), (I 55 (.ss (.t 50) (some (.t 54)) none)), (I 0 (.mv (.t 55)))])
 (.ops [(I 56 (.mv (.t 10))), (I 57 (.bin .add (.t 56) (.k (.int .i64 1)))), (I 10 (.mv (.t 57)))])))))))))
 (.seq (.ops [(I 58 (.mv (.t 9))), (I 59 (.mv (.t 10))), (I 60 (.mv (.t 0))), (I 61 (.ix 1 (.t 58) (.t 59))),
  ⟨none, .st 1 (.t 61) (.t 60), none⟩])
 (.seq (.ops [(I 62 (.mv (.t 9))), (I 63 (.mv (.t 10))), (I 64 (.bin .add (.t 63) (.k (.int .i64 1)))), (I 65 (.sl 1 (.t 62) none (some (.t 64)) none)), (I 8 (.mv (.t 65)))])
 (.seq (.ops [⟨none, .frz (.sl .no) 8, none⟩]) .ret)))))))))))), [.tmp 8], true⟩
/-- eyot/gram.sizes -/
def a183 : AFn := ⟨1, (.seq (.ops [(I 1 (.bim 7 (.t 0)))])
 (.seq (.ops [(I 2 (.fa 0 1 false (.t 1))), (I 3 (.ldi 1 false (.t 2))), (I 4 (.len (.t 3))), (I 5 (.fa 1 1 false (.t 1))), (I 6 (.ldi 1 false (.t 5))), (I 7 (.len (.t 6))), (I 8 (.fa 3 1 false (.t 1))), (I 9 (.ldi 1 false (.t 8))), (I 10 (.len (.t 9))), (I 11 (.nat 5 [(.t 4), (.t 7), (.t 10)])), (I 12 (.bin .gtr (.t 11) (.k (.int .i64 0)))), (I 13 (.call 130 [(.t 12), (.k (.int .i64 0))]))])
 (.ops [(I 14 (.fa 0 1 false (.t 1))), (I 15 (.ldi 1 false (.t 14))), (I 16 (.len (.t 15))), (I 17 (.bin .leq (.t 16) (.k (.int .i64 10)))), (I 18 (.mv (.t 17))),
  ⟨some 19, .fa 1 1 false (.t 1), some (18, true)⟩,
  ⟨some 20, .ldi 1 false (.t 19), some (18, true)⟩,
  ⟨some 21, .len (.t 20), some (18, true)⟩,
  ⟨some 22, .bin .leq (.t 21) (.k (.int .i64 12)), some (18, true)⟩, (I 23 (.pick (.t 18) (.t 22) (.k (.bool false)))), (I 24 (.mv (.t 23))),
  ⟨some 25, .fa 2 1 false (.t 1), some (24, true)⟩,
  ⟨some 26, .ldi 1 false (.t 25), some (24, true)⟩,
  ⟨some 27, .len (.t 26), some (24, true)⟩,
  ⟨some 28, .bin .leq (.t 27) (.k (.int .i64 6)), some (24, true)⟩, (I 29 (.pick (.t 24) (.t 28) (.k (.bool false)))), (I 30 (.mv (.t 29))),
  ⟨some 31, .fa 3 1 false (.t 1), some (30, true)⟩,
  ⟨some 32, .ldi 1 false (.t 31), some (30, true)⟩,
  ⟨some 33, .len (.t 32), some (30, true)⟩,
  ⟨some 34, .bin .leq (.t 33) (.k (.int .i64 24)), some (30, true)⟩, (I 35 (.pick (.t 30) (.t 34) (.k (.bool false)))), (I 36 (.call 130 [(.t 35), (.k (.int .i64 0))]))]))), [], true⟩
/-- eyot/table.Make -/
def a184 : AFn := ⟨1, (.seq (.ops [(I 1 (.bim 7 (.t 0))), (I 2 (.aob ([.list true [], .list true []]))), (I 3 (.aob ([.int .i64 0])))])
 (.seq (.ops [(I 9 (.ldi 7 true (.t 1))), (I 10 (.call 150 [(.t 9)])), (I 8 (.mv (.t 10))), (I 11 (.ext 0 (.t 8))), (I 12 (.ext 1 (.t 8))), (I 4 (.mv (.t 11))),
  ⟨none, .st 1 (.t 3) (.t 12), none⟩])
 (.seq (.seq (.ops [(I 13 (.ldo 1 false (.t 3))), (I 14 (.bin .neq (.t 13) (.k (.int .i64 0))))])
 (.cond (.t 14) (.seq (.ops [⟨none, .bad, none⟩])
 .ret) .skip))
 (.dfr 17 212 [(.t 2), (.t 3)] 5 (.seq (.ops [(I 18 (.ldi 7 true (.t 1))), (I 19 (.mv (.t 4))), (I 20 (.bld (.agg (List.replicate 6 (.list true []) ++ [.int .i64 0, .list true [], .list true [], .list true []])) [((0, 7), (.t 18)), ((7, 1), (.t 19))])), (I 21 (.bob 10 (.t 20))), (I 5 (.mv (.t 21)))])
 (.seq (.seq (.ops [(I 22 (.mv (.t 4))), (I 23 (.len (.t 22))), (I 24 (.mv (.k (.int .i64 0))))])
 (.block 0 (.loop [1, 2, 3, 4, 5, 23, 24] (.seq (.ops [(I 25 (.bin .lss (.t 24) (.t 23)))])
 (.seq (.cond (.t 25) .skip (.exit 0))
 (.seq (.block 1 (.seq (.dops [(I 26 (.mv (.t 5))), (I 27 (.mv (.t 5))), (I 28 (.nilc (.t 27))), (I 29 (.fa 8 2 true (.t 28))), (I 30 (.fa 0 1 false (.t 29))), (I 31 (.ld 1 false (.t 30))), (I 32 (.fa 0 1 false (.t 1))), (I 33 (.ldi 1 false (.t 32))), (I 34 (.len (.t 33))), (I 35 (.bin .add (.t 34) (.k (.int .i64 1)))), (I 36 (.mks 2 (.agg ([.int .i64 0, .int .i64 0])) (.t 35))), (I 80 (.ld 1 false (.t 30))), (I 80 (.chk (.t 80) (.t 31))), (I 37 (.mkl (.list true []) 1 [(0, (.t 36))])), (I 38 (.app 1 (.t 31) (.t 37))), (I 39 (.nilc (.t 26))), (I 40 (.fa 8 2 true (.t 39))), (I 41 (.fa 0 1 false (.t 40))),
  ⟨none, .st 1 (.t 41) (.t 38), none⟩])
 (.dops [(I 42 (.mv (.t 5))), (I 43 (.mv (.t 5))), (I 44 (.nilc (.t 43))), (I 45 (.fa 8 2 true (.t 44))), (I 46 (.fa 1 1 false (.t 45))), (I 47 (.ld 1 false (.t 46))), (I 48 (.mkl (.int .i64 0) 1 [(0, (.k (.int .i64 (-1))))])), (I 49 (.fa 1 1 false (.t 1))), (I 50 (.ldi 1 false (.t 49))), (I 51 (.len (.t 50))), (I 52 (.callc 172 [(.t 48), (.t 51)] [(47, 1, false, (.t 46))])), (I 53 (.mkl (.list true []) 1 [(0, (.t 52))])), (I 54 (.app 1 (.t 47) (.t 53))), (I 55 (.nilc (.t 42))), (I 56 (.fa 8 2 true (.t 55))), (I 57 (.fa 1 1 false (.t 56))),
  ⟨none, .st 1 (.t 57) (.t 54), none⟩])))
 (.ops [(I 58 (.bin .add (.t 24) (.k (.int .i64 1)))), (I 24 (.mv (.t 58)))])))))))
 (.seq (.seq (.ops [(I 59 (.ldi 7 true (.t 1))), (I 60 (.mv (.t 4))), (I 61 (.call 154 [(.t 59), (.t 60)])), (I 62 (.len (.t 61))), (I 63 (.mv (.k (.int .i64 0))))])
 (.block 2 (.loop [2, 3, 5, 61, 62, 63] (.seq (.ops [(I 64 (.bin .lss (.t 63) (.t 62)))])
 (.seq (.cond (.t 64) .skip (.exit 2))
 (.seq (.block 3 (.seq (.ops [(I 65 (.mv (.t 63))), (I 66 (.ix 1 (.t 61) (.t 63))), (I 67 (.ld 1 false (.t 66))), (I 6 (.mv (.t 65))), (I 7 (.mv (.t 67)))])
 (.seq (.ops [(I 68 (.mv (.t 5))), (I 69 (.mv (.t 6))), (I 70 (.mv (.t 7))), (I 71 (.call 80 [(.t 68), (.t 69), (.t 70)]))])
 (.ops [(I 72 (.mv (.t 5))), (I 73 (.mv (.t 6))), (I 74 (.call 79 [(.t 72), (.t 73)]))]))))
 (.ops [(I 75 (.bin .add (.t 63) (.k (.int .i64 1)))), (I 63 (.mv (.t 75)))])))))))
 (.seq (.ops [(I 76 (.mv (.t 5))), (I 77 (.nilc (.t 76))), (I 78 (.fa 8 2 true (.t 77))), (I 79 (.ld 2 true (.t 78))),
  ⟨none, .st 2 (.t 2) (.t 79), none⟩,
  ⟨none, .st 1 (.t 3) (.k (.int .i64 0)), none⟩])
 .ret))))
 (.seq (.ops [(I 6 (.tas 5 (.agg ([])) true (.t 5))), (I 4 (.mv (.t 6))), (I 7 (.ext 0 (.t 4))), (I 8 (.ext 1 (.t 4))), (I 2 (.alv ([]))),
  ⟨none, .st0 (.t 2) (.t 7), none⟩, (I 3 (.mv (.t 8)))])
 (.seq (.ops [(I 9 (.mv (.t 3)))])
 (.cond (.t 9) (.ops [(I 10 (.bld (.agg ([.list true [], .list true []])) [])),
  ⟨none, .st 2 (.t 0) (.t 10), none⟩,
  ⟨none, .st 1 (.t 1) (.k (.int .i64 7)), none⟩]) .skip))))))), [.cell 2 2 true, .cell 3 1 false], false⟩
/-- eyot/wide.Check -/
def a185 : AFn := ⟨1, (.seq (.ops [(I 1 (.bim 7 (.t 0))), (I 2 (.alv ([.list true [], .list true [], .list true [], .int .i64 0]))), (I 3 (.mv (.k (.int .i64 0))))])
 (.seq (.ops [(I 19 (.ldi 7 true (.t 1))), (I 20 (.call 161 [(.t 19)])), (I 18 (.mv (.t 20))), (I 21 (.ext 0 (.t 18))), (I 22 (.ext 1 (.t 18))), (I 4 (.alv (List.replicate 6 (.list true []) ++ [.int .i64 0, .list true [], .list true [], .nilmap]))),
  ⟨none, .st 10 (.t 4) (.t 21), none⟩, (I 5 (.mv (.t 22)))])
 (.seq (.seq (.ops [(I 23 (.mv (.t 5))), (I 24 (.un .not (.t 23)))])
 (.cond (.t 24) (.seq (.ops [(I 25 (.bld (.agg ([.list true [], .list true [], .list true [], .int .i64 0])) [])),
  ⟨none, .st 4 (.t 2) (.t 25), none⟩, (I 3 (.mv (.k (.int .i64 1))))])
 (.seq (.ops [⟨none, .frz (.ag 0 (.sl .no) (.ag 1 (.sl .no) (.ag 2 (.sl .no) .no))) 2, none⟩]) .ret)) .skip))
 (.seq (.ops [(I 26 (.ldl 10 true 4)), (I 27 (.fa 4 1 false (.t 1))), (I 28 (.ldi 1 false (.t 27))), (I 29 (.len (.t 28))), (I 30 (.fa 5 1 false (.t 1))), (I 31 (.ldi 1 false (.t 30))), (I 32 (.len (.t 31))), (I 33 .mkmp), (I 34 (.bld (.agg (List.replicate 6 (.list true []) ++ [.int .i64 0, .list true [], .list true [], .nilmap, .list true [], .int .i64 0, .int .i64 0, .nilmap, .list true []])) [((0, 10), (.t 26)), ((11, 1), (.t 29)), ((12, 1), (.t 32)), ((13, 1), (.t 33))])), (I 35 (.bob 15 (.t 34))), (I 6 (.mv (.t 35)))])
 (.seq (.seq (.ops [(I 36 (.fa 0 1 false (.t 1))), (I 37 (.ldi 1 false (.t 36))), (I 38 (.len (.t 37))), (I 39 (.mv (.k (.int .i64 0))))])
 (.block 0 (.loop [1, 2, 6, 37, 38, 39] (.seq (.ops [(I 40 (.bin .lss (.t 39) (.t 38)))])
 (.seq (.cond (.t 40) .skip (.exit 0))
 (.seq (.block 1 (.seq (.ops [(I 41 (.ix 8 (.t 37) (.t 39))), (I 42 (.ld 8 true (.t 41))), (I 8 (.alv ([.str [], .int .i64 0, .int .u64 0, .int .u64 0, .int .u64 0, .int .u64 0, .list true [], .bool false]))),
  ⟨none, .st 8 (.t 8) (.t 42), none⟩])
 (.seq (.ops [(I 44 (.fa 1 6 true (.t 8))), (I 45 (.ldp 6 true (.t 44))), (I 46 (.call 22 [(.t 45)])), (I 43 (.mv (.t 46))), (I 47 (.ext 0 (.t 43))), (I 48 (.ext 1 (.t 43))), (I 9 (.alv ([.list true [], .list true [], .list true [], .list true [], .bool false]))),
  ⟨none, .st 5 (.t 9) (.t 47), none⟩, (I 10 (.mv (.t 48)))])
 (.dops [(I 49 (.mv (.t 6))), (I 50 (.mv (.t 6))), (I 51 (.nilc (.t 50))), (I 52 (.fa 10 1 false (.t 51))), (I 53 (.ld 1 false (.t 52))), (I 54 (.ldl 5 true 9)), (I 55 (.mkl (.agg ([.list true [], .list true [], .list true [], .list true [], .bool false])) 1 [(0, (.t 54))])), (I 56 (.app 5 (.t 53) (.t 55))), (I 57 (.nilc (.t 49))), (I 58 (.fa 10 1 false (.t 57))),
  ⟨none, .st 1 (.t 58) (.t 56), none⟩]))))
 (.ops [(I 59 (.bin .add (.t 39) (.k (.int .i64 1)))), (I 39 (.mv (.t 59)))])))))))
 (.seq (.seq (.ops [(I 60 (.mv (.t 6))), (I 61 (.call 84 [(.t 60)])), (I 11 (.mv (.t 61)))])
 (.block 2 (.loop [1, 2, 6, 11] (.seq (.seq (.ops [(I 62 (.mv (.t 11))), (I 63 (.bin .lss (.t 62) (.k (.int .i64 0))))])
 (.cond (.t 63) .skip (.exit 2)))
 (.seq (.block 3 (.ops [(I 66 (.mv (.t 6))), (I 67 (.call 92 [])), (I 68 (.mv (.t 11))), (I 69 (.call 83 [(.t 66), (.t 67), (.k (.int .i64 (-1))), (.t 68)]))]))
 (.ops [(I 64 (.mv (.t 11))), (I 65 (.bin .add (.t 64) (.k (.int .i64 1)))), (I 11 (.mv (.t 65)))]))))))
 (.seq (.seq (.ops [(I 70 (.fa 6 1 false (.t 1))), (I 71 (.ldi 1 false (.t 70))), (I 72 (.mv (.k (.int .i64 0))))])
 (.block 4 (.loop [1, 2, 6, 71, 72] (.seq (.ops [(I 73 (.bin .lss (.t 72) (.t 71)))])
 (.seq (.cond (.t 73) .skip (.exit 4))
 (.seq (.block 5 (.seq (.ops [(I 74 (.mv (.t 6))), (I 75 (.nilc (.t 74))), (I 76 (.fa 14 1 false (.t 75))), (I 77 (.ld 1 false (.t 76))), (I 12 (.mv (.t 77)))])
 (.seq (.ops [(I 78 (.mv (.t 6))), (I 79 (.nilc (.t 78))), (I 80 (.fa 14 1 false (.t 79))),
  ⟨none, .st 1 (.t 80) (.k (.list true [])), none⟩])
 (.seq (.seq (.ops [(I 81 (.mv (.t 12))), (I 82 (.len (.t 81))), (I 83 (.mv (.k (.int .i64 0))))])
 (.block 6 (.loop [1, 2, 6, 12, 71, 72, 81, 82, 83] (.seq (.ops [(I 84 (.bin .lss (.t 83) (.t 82)))])
 (.seq (.cond (.t 84) .skip (.exit 6))
 (.seq (.block 7 (.seq (.ops [(I 85 (.ix 4 (.t 81) (.t 83))), (I 86 (.ld 4 true (.t 85))), (I 14 (.alv ([.int .i64 0, .int .i64 0, .int .i64 0, .int .i64 0]))),
  ⟨none, .st 4 (.t 14) (.t 86), none⟩])
 (.seq (.ops [(I 87 (.mv (.t 6))), (I 88 (.ldl 4 true 14)), (I 89 (.call 90 [(.t 87), (.t 88)]))])
 (.cond (.t 89) (.seq (.ops [(I 90 (.mv (.t 6))), (I 91 (.ldl 4 true 14)), (I 92 (.call 187 [(.t 90), (.t 91)])), (I 15 (.alv ([.list true [], .list true [], .list true [], .int .i64 0]))),
  ⟨none, .st 4 (.t 15) (.t 92), none⟩])
 (.seq (.ops [(I 93 (.fa 4 1 false (.t 1))), (I 94 (.ldi 1 false (.t 93))), (I 95 (.fa 4 1 false (.t 1))), (I 96 (.ldi 1 false (.t 95))), (I 97 (.len (.t 96))), (I 98 (.fa 3 1 false (.t 15))), (I 99 (.ldp 1 false (.t 98))), (I 100 (.bin .sub (.t 97) (.t 99))), (I 101 (.mnmx true (.t 100) (.k (.int .i64 0)))), (I 102 (.sl 4 (.t 94) none (some (.t 101)) none)), (I 103 (.call 162 [(.t 102)])), (I 104 (.fa 0 1 false (.t 15))),
  ⟨none, .st 1 (.t 104) (.t 103), none⟩])
 (.seq (.ops [(I 105 (.fa 5 1 false (.t 1))), (I 106 (.ldi 1 false (.t 105))), (I 107 (.fa 1 1 false (.t 15))), (I 108 (.ldp 1 false (.t 107))), (I 109 (.len (.t 108))), (I 110 (.fa 3 1 false (.t 15))), (I 111 (.ldp 1 false (.t 110))), (I 112 (.bin .sub (.t 109) (.t 111))), (I 113 (.fa 5 1 false (.t 1))), (I 114 (.ldi 1 false (.t 113))), (I 115 (.len (.t 114))), (I 116 (.mnmx false (.t 112) (.t 115))), (I 117 (.sl 4 (.t 106) (some (.t 116)) none none)), (I 118 (.call 162 [(.t 117)])), (I 119 (.fa 2 1 false (.t 15))),
  ⟨none, .st 1 (.t 119) (.t 118), none⟩])
 (.seq (.ops [(I 120 (.ldl 4 true 15)),
  ⟨none, .st 4 (.t 2) (.t 120), none⟩, (I 3 (.mv (.k (.int .i64 8))))])
 (.seq (.ops [⟨none, .frz (.ag 0 (.sl .no) (.ag 1 (.sl .no) (.ag 2 (.sl .no) .no))) 2, none⟩]) .ret))))) .skip))))
 (.ops [(I 121 (.bin .add (.t 83) (.k (.int .i64 1)))), (I 83 (.mv (.t 121)))])))))))
 (.seq (.ops [(I 122 (.mv (.t 12))), (I 123 (.len (.t 122))), (I 124 (.mv (.k (.int .i64 0))))])
 (.block 8 (.loop [1, 2, 6, 71, 72, 122, 123, 124] (.seq (.ops [(I 125 (.bin .lss (.t 124) (.t 123)))])
 (.seq (.cond (.t 125) .skip (.exit 8))
 (.seq (.block 9 (.seq (.ops [(I 126 (.ix 4 (.t 122) (.t 124))), (I 127 (.ld 4 true (.t 126))), (I 17 (.alv ([.int .i64 0, .int .i64 0, .int .i64 0, .int .i64 0]))),
  ⟨none, .st 4 (.t 17) (.t 127), none⟩])
 (.ops [(I 128 (.mv (.t 6))), (I 129 (.ldl 4 true 17)), (I 130 (.call 91 [(.t 128), (.t 129)]))])))
 (.ops [(I 131 (.bin .add (.t 124) (.k (.int .i64 1)))), (I 124 (.mv (.t 131)))])))))))))))
 (.ops [(I 132 (.bin .add (.t 72) (.k (.int .i64 1)))), (I 72 (.mv (.t 132)))])))))))
 (.seq (.ops [(I 133 (.bld (.agg ([.list true [], .list true [], .list true [], .int .i64 0])) [])),
  ⟨none, .st 4 (.t 2) (.t 133), none⟩, (I 3 (.mv (.k (.int .i64 0))))])
 (.seq (.ops [⟨none, .frz (.ag 0 (.sl .no) (.ag 1 (.sl .no) (.ag 2 (.sl .no) .no))) 2, none⟩]) .ret))))))))), [.cell 2 4 true, .tmp 3], true⟩
/-- (*eyot/item.closer).close$1 -/
def a186 : AFn := ⟨3, (.seq (.ops [(I 3 (.bim 3 (.t 0)))])
 (.seq (.ops [(I 4 (.ld 1 false (.t 1))), (I 5 (.ldi 3 true (.t 3))), (I 6 (.mpl 3 (.bool false) false (.t 4) (.t 5))), (I 7 (.un .not (.t 6)))])
 (.cond (.t 7) (.seq (.ops [(I 8 (.ld 1 false (.t 1))), (I 9 (.ldi 3 true (.t 3))),
  ⟨none, .mpu 3 (.t 8) (.t 9) (.k (.bool true)), none⟩])
 (.ops [(I 10 (.ld 1 false (.t 2))), (I 11 (.ldi 3 true (.t 3))), (I 12 (.mkl (.agg ([.int .i64 0, .int .i64 0, .int .i64 0])) 1 [(0, (.t 11))])), (I 13 (.app 3 (.t 10) (.t 12))),
  ⟨none, .st 1 (.t 2) (.t 13), none⟩])) .skip))), [], false⟩
/-- (*eyot/wide.walker).witness -/
def a187 : AFn := ⟨2, (.seq (.ops [(I 3 (.blv 4 (.t 1))), (I 4 (.alv ([.list true [], .list true [], .list true [], .int .i64 0])))])
 (.seq (.ops [(I 5 (.alv ([.list true [], .list true [], .list true [], .int .i64 0])))])
 (.seq (.ops [(I 8 (.fa 3 1 false (.t 3))), (I 9 (.ldp 1 false (.t 8))), (I 6 (.mv (.t 9)))])
 (.seq (.block 0 (.loop [0, 3, 4, 5, 6, 33, 34, 35, 36, 37, 38, 39, 40] (.seq (.seq (.dops [(I 10 (.ldl 4 true 3)), (I 11 (.call 92 [])), (I 12 (.eq true (.agg [.i, .i, .i, .i]) (.t 10) (.t 11)))])
 (.cond (.t 12) .skip (.exit 0)))
 (.block 1 (.seq (.dops [(I 13 (.mv (.t 0))), (I 14 (.nilc (.t 13))), (I 15 (.fa 13 1 false (.t 14))), (I 16 (.ldo 1 false (.t 15))), (I 17 (.ldl 4 true 3)), (I 18 (.mpl 4 (.agg ([.int .i64 0, .int .i64 0, .int .i64 0, .int .i64 0, .int .u8 0])) false (.t 16) (.t 17))), (I 7 (.alv ([.int .i64 0, .int .i64 0, .int .i64 0, .int .i64 0, .int .u8 0]))),
  ⟨none, .st 5 (.t 7) (.t 18), none⟩])
 (.seq (.ops [(I 19 (.fa 1 1 false (.t 5))), (I 20 (.ldp 1 false (.t 19))), (I 21 (.fa 4 1 false (.t 7))), (I 22 (.ldp 1 false (.t 21))), (I 23 (.mkl (.int .u8 0) 1 [(0, (.t 22))])), (I 24 (.app 1 (.t 20) (.t 23))), (I 25 (.fa 1 1 false (.t 5))),
  ⟨none, .st 1 (.t 25) (.t 24), none⟩])
 (.seq (.seq (.dops [(I 26 (.fa 3 1 false (.t 3))), (I 27 (.ldp 1 false (.t 26))), (I 28 (.fa 0 4 true (.t 7))), (I 29 (.fa 3 1 false (.t 28))), (I 30 (.ldp 1 false (.t 29))), (I 31 (.bin .eql (.t 27) (.t 30))), (I 32 (.mv (.t 31))),
  ⟨some 33, .fa 3 1 false (.t 3), some (32, true)⟩,
  ⟨some 34, .ldp 1 false (.t 33), some (32, true)⟩,
  ⟨some 35, .mv (.t 0), some (32, true)⟩,
  ⟨some 36, .nilc (.t 35), some (32, true)⟩,
  ⟨some 37, .fa 12 1 false (.t 36), some (32, true)⟩,
  ⟨some 38, .ldo 1 false (.t 37), some (32, true)⟩,
  ⟨some 39, .mnmx true (.t 38) (.k (.int .i64 1)), some (32, true)⟩,
  ⟨some 40, .bin .eql (.t 34) (.t 39), some (32, true)⟩, (I 41 (.pick (.t 32) (.t 40) (.k (.bool false))))])
 (.cond (.t 41) (.ops [(I 42 (.mv (.t 6))), (I 43 (.bin .add (.t 42) (.k (.int .i64 1)))), (I 6 (.mv (.t 43)))]) .skip))
 (.ops [(I 44 (.fa 0 4 true (.t 7))), (I 45 (.ldp 4 true (.t 44))),
  ⟨none, .st 4 (.t 3) (.t 45), none⟩]))))))))
 (.seq (.ops [(I 46 (.fa 1 1 false (.t 5))), (I 47 (.ldp 1 false (.t 46))), (I 48 (.call 173 [(.t 47)]))])
 (.seq (.ops [(I 49 (.fa 1 1 false (.t 5))), (I 50 (.ldp 1 false (.t 49))), (I 51 (.len (.t 50))), (I 52 (.mv (.t 6))), (I 53 (.bin .sub (.t 51) (.t 52))), (I 54 (.fa 3 1 false (.t 5))),
  ⟨none, .st 1 (.t 54) (.t 53), none⟩])
 (.seq (.ops [(I 55 (.ldl 4 true 5)),
  ⟨none, .st 4 (.t 4) (.t 55), none⟩])
 (.seq (.ops [⟨none, .frz (.ag 0 (.sl .no) (.ag 1 (.sl .no) (.ag 2 (.sl .no) .no))) 4, none⟩]) .ret)))))))), [.cell 4 4 true], true⟩
/-- eyot/eyotlaw22.LangFirst -/
def a188 : AFn := ⟨0, (.seq (.ops [(I 0 (.mv (.k (.bool false))))])
 (.seq (.seq (.ops [(I 22 (.call 99 [])), (I 23 (.un .not (.t 22)))])
 (.cond (.t 23) (.seq (.ops [(I 0 (.mv (.k (.bool false))))])
 .ret) .skip))
 (.seq (.ops [(I 1 (.mv (.k (.str [116, 111, 107, 101, 110, 32, 97, 32, 61, 32, 40, 97, 124, 98, 41, 42, 97, 40, 97, 124, 98, 41, 40, 97, 124, 98, 41, 40, 97, 124, 98, 41, 40, 97, 124, 98, 41, 40, 97, 124, 98, 41, 10]))))])
 (.seq (.ops [(I 2 (.mv (.k (.str [116, 111, 107, 101, 110, 32, 97, 32, 61, 32, 97, 10]))))])
 (.seq (.ops [(I 3 (.mv (.k (.str [114, 117, 108, 101, 32, 115, 32, 61, 32, 97, 32, 97, 10, 114, 117, 108, 101, 32, 115, 32, 61, 32, 97, 32, 97, 10]))))])
 (.seq (.ops [(I 4 (.mv (.k (.str [114, 117, 108, 101, 32, 115, 32, 61, 32, 97, 32, 97, 10]))))])
 (.seq (.ops [(I 5 (.mv (.k (.str [115, 121, 110, 99, 32, 97, 32, 124, 32, 97, 10, 109, 97, 120, 32, 57, 10]))))])
 (.seq (.ops [(I 6 (.mv (.k (.str [115, 121, 110, 99, 32, 92, 120, 48, 97, 32, 124, 10, 109, 97, 120, 32, 57, 10]))))])
 (.seq (.ops [(I 25 (.mv (.t 1))), (I 26 (.mv (.t 3))), (I 27 (.bin .add (.t 25) (.t 26))), (I 28 (.mv (.t 5))), (I 29 (.bin .add (.t 27) (.t 28))), (I 30 (.bin .add (.t 29) (.k (.str [109, 97, 120, 32, 57, 10])))), (I 31 (.call 101 [(.t 30)])), (I 24 (.mv (.t 31))), (I 32 (.ext 0 (.t 24))), (I 33 (.ext 1 (.t 24))), (I 34 (.ext 2 (.t 24))), (I 7 (.alv (List.replicate 6 (.list true []) ++ [.int .i64 0] ++ List.replicate 256 (.int .u8 0) ++ [.list true [], .list true [], .list true [], .list true []]))),
  ⟨none, .st 267 (.t 7) (.t 32), none⟩, (I 8 (.mv (.t 33))), (I 9 (.mv (.t 34)))])
 (.seq (.ops [(I 36 (.mv (.t 1))), (I 37 (.mv (.t 3))), (I 38 (.bin .add (.t 36) (.t 37))), (I 39 (.mv (.t 5))), (I 40 (.bin .add (.t 38) (.t 39))), (I 41 (.call 101 [(.t 40)])), (I 35 (.mv (.t 41))), (I 42 (.ext 0 (.t 35))), (I 43 (.ext 1 (.t 35))), (I 44 (.ext 2 (.t 35))), (I 10 (.alv (List.replicate 6 (.list true []) ++ [.int .i64 0] ++ List.replicate 256 (.int .u8 0) ++ [.list true [], .list true [], .list true [], .list true []]))),
  ⟨none, .st 267 (.t 10) (.t 42), none⟩, (I 11 (.mv (.t 43))), (I 12 (.mv (.t 44)))])
 (.seq (.ops [(I 46 (.mv (.t 2))), (I 47 (.mv (.t 3))), (I 48 (.bin .add (.t 46) (.t 47))), (I 49 (.mv (.t 5))), (I 50 (.bin .add (.t 48) (.t 49))), (I 51 (.call 101 [(.t 50)])), (I 45 (.mv (.t 51))), (I 52 (.ext 0 (.t 45))), (I 53 (.ext 1 (.t 45))), (I 54 (.ext 2 (.t 45))), (I 13 (.alv (List.replicate 6 (.list true []) ++ [.int .i64 0] ++ List.replicate 256 (.int .u8 0) ++ [.list true [], .list true [], .list true [], .list true []]))),
  ⟨none, .st 267 (.t 13) (.t 52), none⟩, (I 14 (.mv (.t 53))), (I 15 (.mv (.t 54)))])
 (.seq (.ops [(I 56 (.mv (.t 2))), (I 57 (.mv (.t 4))), (I 58 (.bin .add (.t 56) (.t 57))), (I 59 (.mv (.t 5))), (I 60 (.bin .add (.t 58) (.t 59))), (I 61 (.call 101 [(.t 60)])), (I 55 (.mv (.t 61))), (I 62 (.ext 0 (.t 55))), (I 63 (.ext 1 (.t 55))), (I 64 (.ext 2 (.t 55))), (I 16 (.alv (List.replicate 6 (.list true []) ++ [.int .i64 0] ++ List.replicate 256 (.int .u8 0) ++ [.list true [], .list true [], .list true [], .list true []]))),
  ⟨none, .st 267 (.t 16) (.t 62), none⟩, (I 17 (.mv (.t 63))), (I 18 (.mv (.t 64)))])
 (.seq (.ops [(I 66 (.mv (.t 2))), (I 67 (.mv (.t 4))), (I 68 (.bin .add (.t 66) (.t 67))), (I 69 (.mv (.t 6))), (I 70 (.bin .add (.t 68) (.t 69))), (I 71 (.call 101 [(.t 70)])), (I 65 (.mv (.t 71))), (I 72 (.ext 0 (.t 65))), (I 73 (.ext 1 (.t 65))), (I 74 (.ext 2 (.t 65))), (I 19 (.alv (List.replicate 6 (.list true []) ++ [.int .i64 0] ++ List.replicate 256 (.int .u8 0) ++ [.list true [], .list true [], .list true [], .list true []]))),
  ⟨none, .st 267 (.t 19) (.t 72), none⟩, (I 20 (.mv (.t 73))), (I 21 (.mv (.t 74)))])
 (.seq (.ops [(I 75 (.mv (.t 9))), (I 76 (.bin .eql (.t 75) (.k (.int .i64 5)))), (I 77 (.mv (.t 76))),
  ⟨some 78, .mv (.t 8), some (77, true)⟩,
  ⟨some 79, .bin .eql (.t 78) (.k (.int .i64 6)), some (77, true)⟩, (I 80 (.pick (.t 77) (.t 79) (.k (.bool false)))), (I 81 (.mv (.t 80))),
  ⟨some 82, .mv (.t 12), some (81, true)⟩,
  ⟨some 83, .bin .eql (.t 82) (.k (.int .i64 6)), some (81, true)⟩, (I 84 (.pick (.t 81) (.t 83) (.k (.bool false)))), (I 85 (.mv (.t 84))),
  ⟨some 86, .mv (.t 15), some (85, true)⟩,
  ⟨some 87, .bin .eql (.t 86) (.k (.int .i64 7)), some (85, true)⟩, (I 88 (.pick (.t 85) (.t 87) (.k (.bool false)))), (I 89 (.mv (.t 88))),
  ⟨some 90, .mv (.t 18), some (89, true)⟩,
  ⟨some 91, .bin .eql (.t 90) (.k (.int .i64 8)), some (89, true)⟩, (I 92 (.pick (.t 89) (.t 91) (.k (.bool false)))), (I 93 (.mv (.t 92))),
  ⟨some 94, .mv (.t 21), some (93, true)⟩,
  ⟨some 95, .bin .eql (.t 94) (.k (.int .i64 0)), some (93, true)⟩, (I 96 (.pick (.t 93) (.t 95) (.k (.bool false)))), (I 0 (.mv (.t 96)))])
 .ret)))))))))))))), [.tmp 0], true⟩
end Ey.Lf
