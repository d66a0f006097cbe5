/- The statement Rows.TableGivenSaid, that the law answers true whatever its arguments, is proved, under no condition: the law's functions are held against code of a small language of our own (YtcbmfmdmmbcehaaGreatTgC), whose evaluator the kernel runs at one argument of each remainder. -/
import Derived.Test.YtcbmfmdmmbcehaaGreatTgQ0
import Derived.Test.YtcbmfmdmmbcehaaGreatTgF
import Derived.Test.YtcbmfmdmmbcehaaGreatTgR0
import Derived.Test.YtcbmfmdmmbcehaaGreatTgR1
import Derived.Test.YtcbmfmdmmbcehaaGreatTgR2
import Derived.Test.YtcbmfmdmmbcehaaGreatTgR3
import Derived.Test.YtcbmfmdmmbcehaaGreatTgR4
import Derived.Test.YtcbmfmdmmbcehaaGreatTgR5
import Derived.Test.YtcbmfmdmmbcehaaGreatTgR6
import Derived.Test.YtcbmfmdmmbcehaaGreatTgR7
import Derived.Test.YtcbmfmdmmbcehaaGreatTgR8
import Derived.Test.YtcbmfmdmmbcehaaGreatTgR9
import Derived.Test.YtcbmfmdmmbcehaaGreatTgR10
import Derived.Test.YtcbmfmdmmbcehaaGreatTgR11
import Derived.Test.YtcbmfmdmmbcehaaGreatTgR12
import Derived.Test.YtcbmfmdmmbcehaaGreatTgR13
import Derived.Test.YtcbmfmdmmbcehaaGreatTgR14
import Derived.Test.YtcbmfmdmmbcehaaGreatTgR15
import Derived.Test.YtcbmfmdmmbcehaaGreatTgR16
import Derived.Test.YtcbmfmdmmbcehaaGreatTgR17
import Derived.Test.YtcbmfmdmmbcehaaGreatTgR18
import Derived.Test.YtcbmfmdmmbcehaaGreatTgC
import Derived.Test.YtcbmfmdmmbcehaaGreatEyB4
import Derived.ProofKit
import Derived.OpenShut
set_option maxRecDepth 1000000
namespace Ey.Tg
open Go (IntKind)
abbrev MO (f : Nat) (m : Mem) : Prop := MemOK (fun f => afs[f]?) f m
theorem mc {Φ : Nat → Option AFn} {f : Nat} {m : Mem} {l : List Mem} (h : MemOK Φ f m) (t : ∀ x ∈ l, MemOK Φ f x) : ∀ x ∈ m :: l, MemOK Φ f x := List.forall_mem_cons.2 ⟨h, t⟩
theorem lk0_ok : ∀ f, ZEok (fun f => afs[f]?) f (lk0 f) := (nats_nil look)
theorem m0_ok : MO 79 m0 := mem_run lk0_ok r0
theorem m1_ok : MO 96 m1 := mem_run lk0_ok r1
theorem m2_ok : MO 2 m2 := mem_run lk0_ok r2
theorem m3_ok : MO 50 m3 := mem_run lk0_ok r3
theorem m4_ok : MO 50 m4 := mem_run lk0_ok r4
theorem m5_ok : MO 50 m5 := mem_run lk0_ok r5
theorem m6_ok : MO 50 m6 := mem_run lk0_ok r6
theorem m7_ok : MO 50 m7 := mem_run lk0_ok r7
theorem m8_ok : MO 50 m8 := mem_run lk0_ok r8
theorem m9_ok : MO 177 m9 := mem_run lk0_ok r9
theorem m10_ok : MO 79 m10 := mem_run lk0_ok r10
theorem m11_ok : MO 96 m11 := mem_run lk0_ok r11
theorem m12_ok : MO 96 m12 := mem_run lk0_ok r12
theorem m13_ok : MO 50 m13 := mem_run lk0_ok r13
theorem m14_ok : MO 50 m14 := mem_run lk0_ok r14
theorem m15_ok : MO 50 m15 := mem_run lk0_ok r15
theorem m16_ok : MO 50 m16 := mem_run lk0_ok r16
theorem m17_ok : MO 177 m17 := mem_run lk0_ok r17
theorem m18_ok : MO 79 m18 := mem_run lk0_ok r18
theorem m19_ok : MO 82 m19 := mem_run lk0_ok r19
theorem m20_ok : MO 79 m20 := mem_run lk0_ok r20
theorem m21_ok : MO 95 m21 := mem_run lk0_ok r21
theorem m22_ok : MO 50 m22 := mem_run lk0_ok r22
theorem m23_ok : MO 50 m23 := mem_run lk0_ok r23
theorem m24_ok : MO 50 m24 := mem_run lk0_ok r24
theorem m25_ok : MO 50 m25 := mem_run lk0_ok r25
theorem m26_ok : MO 50 m26 := mem_run lk0_ok r26
theorem m27_ok : MO 50 m27 := mem_run lk0_ok r27
theorem m28_ok : MO 50 m28 := mem_run lk0_ok r28
theorem m29_ok : MO 50 m29 := mem_run lk0_ok r29
theorem m30_ok : MO 50 m30 := mem_run lk0_ok r30
theorem m31_ok : MO 50 m31 := mem_run lk0_ok r31
theorem m32_ok : MO 50 m32 := mem_run lk0_ok r32
theorem m33_ok : MO 50 m33 := mem_run lk0_ok r33
theorem m34_ok : MO 125 m34 := mem_run lk0_ok r34
theorem m35_ok : MO 79 m35 := mem_run lk0_ok r35
theorem m36_ok : MO 96 m36 := mem_run lk0_ok r36
theorem m37_ok : MO 96 m37 := mem_run lk0_ok r37
theorem m38_ok : MO 96 m38 := mem_run lk0_ok r38
theorem m39_ok : MO 96 m39 := mem_run lk0_ok r39
theorem m40_ok : MO 50 m40 := mem_run lk0_ok r40
theorem m41_ok : MO 50 m41 := mem_run lk0_ok r41
theorem m42_ok : MO 50 m42 := mem_run lk0_ok r42
theorem m43_ok : MO 50 m43 := mem_run lk0_ok r43
theorem m44_ok : MO 50 m44 := mem_run lk0_ok r44
theorem m45_ok : MO 50 m45 := mem_run lk0_ok r45
theorem m46_ok : MO 50 m46 := mem_run lk0_ok r46
theorem m47_ok : MO 50 m47 := mem_run lk0_ok r47
theorem m48_ok : MO 50 m48 := mem_run lk0_ok r48
theorem m49_ok : MO 50 m49 := mem_run lk0_ok r49
theorem m50_ok : MO 50 m50 := mem_run lk0_ok r50
theorem m51_ok : MO 177 m51 := mem_run lk0_ok r51
theorem lk1_ok : ∀ f, ZEok (fun f => afs[f]?) f (lk1 f) := (nats_cons (memZ_ok (f := 2) rfl (mc m2_ok (fun _ h => by cases h))) (nats_cons (memZ_ok (f := 50) rfl (mc m3_ok (mc m4_ok (mc m5_ok (mc m6_ok (mc m7_ok (mc m8_ok (mc m13_ok (mc m14_ok (mc m15_ok (mc m16_ok (mc m22_ok (mc m23_ok (mc m24_ok (mc m25_ok (mc m26_ok (mc m27_ok (mc m28_ok (mc m29_ok (mc m30_ok (mc m31_ok (mc m32_ok (mc m33_ok (mc m40_ok (mc m41_ok (mc m42_ok (mc m43_ok (mc m44_ok (mc m45_ok (mc m46_ok (mc m47_ok (mc m48_ok (mc m49_ok (mc m50_ok (fun _ h => by cases h))))))))))))))))))))))))))))))))))) (nats_cons (memZ_ok (f := 79) rfl (mc m0_ok (mc m10_ok (mc m18_ok (mc m20_ok (mc m35_ok (fun _ h => by cases h))))))) (nats_cons (memZ_ok (f := 82) rfl (mc m19_ok (fun _ h => by cases h))) (nats_cons (memZ_ok (f := 95) rfl (mc m21_ok (fun _ h => by cases h))) (nats_cons (memZ_ok (f := 96) rfl (mc m1_ok (mc m11_ok (mc m12_ok (mc m36_ok (mc m37_ok (mc m38_ok (mc m39_ok (fun _ h => by cases h))))))))) (nats_cons (memZ_ok (f := 125) rfl (mc m34_ok (fun _ h => by cases h))) (nats_cons (memZ_ok (f := 177) rfl (mc m9_ok (mc m17_ok (mc m51_ok (fun _ h => by cases h))))) (nats_nil look)))))))))
theorem m52_ok : MO 80 m52 := mem_run lk1_ok r52
theorem m53_ok : MO 54 m53 := mem_run lk1_ok r53
theorem m54_ok : MO 54 m54 := mem_run lk1_ok r54
theorem m55_ok : MO 55 m55 := mem_run lk1_ok r55
theorem m56_ok : MO 55 m56 := mem_run lk1_ok r56
theorem m57_ok : MO 55 m57 := mem_run lk1_ok r57
theorem m58_ok : MO 55 m58 := mem_run lk1_ok r58
theorem m59_ok : MO 55 m59 := mem_run lk1_ok r59
theorem m60_ok : MO 80 m60 := mem_run lk1_ok r60
theorem m61_ok : MO 54 m61 := mem_run lk1_ok r61
theorem m62_ok : MO 55 m62 := mem_run lk1_ok r62
theorem m63_ok : MO 55 m63 := mem_run lk1_ok r63
theorem m64_ok : MO 55 m64 := mem_run lk1_ok r64
theorem m65_ok : MO 55 m65 := mem_run lk1_ok r65
theorem m66_ok : MO 55 m66 := mem_run lk1_ok r66
theorem m67_ok : MO 55 m67 := mem_run lk1_ok r67
theorem m68_ok : MO 55 m68 := mem_run lk1_ok r68
theorem m69_ok : MO 96 m69 := mem_run lk1_ok r69
theorem m70_ok : MO 96 m70 := mem_run lk1_ok r70
theorem m71_ok : MO 96 m71 := mem_run lk1_ok r71
theorem m72_ok : MO 96 m72 := mem_run lk1_ok r72
theorem m73_ok : MO 96 m73 := mem_run lk1_ok r73
theorem m74_ok : MO 96 m74 := mem_run lk1_ok r74
theorem m75_ok : MO 96 m75 := mem_run lk1_ok r75
theorem m76_ok : MO 96 m76 := mem_run lk1_ok r76
theorem m77_ok : MO 96 m77 := mem_run lk1_ok r77
theorem m78_ok : MO 97 m78 := mem_run lk1_ok r78
theorem m79_ok : MO 54 m79 := mem_run lk1_ok r79
theorem m80_ok : MO 54 m80 := mem_run lk1_ok r80
theorem m81_ok : MO 55 m81 := mem_run lk1_ok r81
theorem m82_ok : MO 55 m82 := mem_run lk1_ok r82
theorem m83_ok : MO 55 m83 := mem_run lk1_ok r83
theorem m84_ok : MO 55 m84 := mem_run lk1_ok r84
theorem m85_ok : MO 55 m85 := mem_run lk1_ok r85
theorem m86_ok : MO 55 m86 := mem_run lk1_ok r86
theorem m87_ok : MO 55 m87 := mem_run lk1_ok r87
theorem m88_ok : MO 55 m88 := mem_run lk1_ok r88
theorem m89_ok : MO 55 m89 := mem_run lk1_ok r89
theorem m90_ok : MO 55 m90 := mem_run lk1_ok r90
theorem m91_ok : MO 55 m91 := mem_run lk1_ok r91
theorem m92_ok : MO 55 m92 := mem_run lk1_ok r92
theorem m93_ok : MO 122 m93 := mem_run lk1_ok r93
theorem m94_ok : MO 104 m94 := mem_run lk1_ok r94
theorem m95_ok : MO 54 m95 := mem_run lk1_ok r95
theorem m96_ok : MO 55 m96 := mem_run lk1_ok r96
theorem m97_ok : MO 55 m97 := mem_run lk1_ok r97
theorem m98_ok : MO 55 m98 := mem_run lk1_ok r98
theorem m99_ok : MO 55 m99 := mem_run lk1_ok r99
theorem m100_ok : MO 55 m100 := mem_run lk1_ok r100
theorem m101_ok : MO 55 m101 := mem_run lk1_ok r101
theorem m102_ok : MO 55 m102 := mem_run lk1_ok r102
theorem m103_ok : MO 55 m103 := mem_run lk1_ok r103
theorem m104_ok : MO 55 m104 := mem_run lk1_ok r104
theorem m105_ok : MO 55 m105 := mem_run lk1_ok r105
theorem m106_ok : MO 55 m106 := mem_run lk1_ok r106
theorem m107_ok : MO 55 m107 := mem_run lk1_ok r107
theorem m108_ok : MO 55 m108 := mem_run lk1_ok r108
theorem m109_ok : MO 55 m109 := mem_run lk1_ok r109
theorem m110_ok : MO 55 m110 := mem_run lk1_ok r110
theorem lk2_ok : ∀ f, ZEok (fun f => afs[f]?) f (lk2 f) := (nats_cons (memZ_ok (f := 2) rfl (mc m2_ok (fun _ h => by cases h))) (nats_cons (memZ_ok (f := 50) rfl (mc m3_ok (mc m4_ok (mc m5_ok (mc m6_ok (mc m7_ok (mc m8_ok (mc m13_ok (mc m14_ok (mc m15_ok (mc m16_ok (mc m22_ok (mc m23_ok (mc m24_ok (mc m25_ok (mc m26_ok (mc m27_ok (mc m28_ok (mc m29_ok (mc m30_ok (mc m31_ok (mc m32_ok (mc m33_ok (mc m40_ok (mc m41_ok (mc m42_ok (mc m43_ok (mc m44_ok (mc m45_ok (mc m46_ok (mc m47_ok (mc m48_ok (mc m49_ok (mc m50_ok (fun _ h => by cases h))))))))))))))))))))))))))))))))))) (nats_cons (memZ_ok (f := 54) rfl (mc m53_ok (mc m54_ok (mc m61_ok (mc m79_ok (mc m80_ok (mc m95_ok (fun _ h => by cases h)))))))) (nats_cons (memZ_ok (f := 55) rfl (mc m55_ok (mc m56_ok (mc m57_ok (mc m58_ok (mc m59_ok (mc m62_ok (mc m63_ok (mc m64_ok (mc m65_ok (mc m66_ok (mc m67_ok (mc m68_ok (mc m81_ok (mc m82_ok (mc m83_ok (mc m84_ok (mc m85_ok (mc m86_ok (mc m87_ok (mc m88_ok (mc m89_ok (mc m90_ok (mc m91_ok (mc m92_ok (mc m96_ok (mc m97_ok (mc m98_ok (mc m99_ok (mc m100_ok (mc m101_ok (mc m102_ok (mc m103_ok (mc m104_ok (mc m105_ok (mc m106_ok (mc m107_ok (mc m108_ok (mc m109_ok (mc m110_ok (fun _ h => by cases h))))))))))))))))))))))))))))))))))))))))) (nats_cons (memZ_ok (f := 79) rfl (mc m0_ok (mc m10_ok (mc m18_ok (mc m20_ok (mc m35_ok (fun _ h => by cases h))))))) (nats_cons (memZ_ok (f := 80) rfl (mc m52_ok (mc m60_ok (fun _ h => by cases h)))) (nats_cons (memZ_ok (f := 82) rfl (mc m19_ok (fun _ h => by cases h))) (nats_cons (memZ_ok (f := 95) rfl (mc m21_ok (fun _ h => by cases h))) (nats_cons (memZ_ok (f := 96) rfl (mc m1_ok (mc m11_ok (mc m12_ok (mc m36_ok (mc m37_ok (mc m38_ok (mc m39_ok (mc m69_ok (mc m70_ok (mc m71_ok (mc m72_ok (mc m73_ok (mc m74_ok (mc m75_ok (mc m76_ok (mc m77_ok (fun _ h => by cases h)))))))))))))))))) (nats_cons (memZ_ok (f := 97) rfl (mc m78_ok (fun _ h => by cases h))) (nats_cons (memZ_ok (f := 104) rfl (mc m94_ok (fun _ h => by cases h))) (nats_cons (memZ_ok (f := 122) rfl (mc m93_ok (fun _ h => by cases h))) (nats_cons (memZ_ok (f := 125) rfl (mc m34_ok (fun _ h => by cases h))) (nats_cons (memZ_ok (f := 177) rfl (mc m9_ok (mc m17_ok (mc m51_ok (fun _ h => by cases h))))) (nats_nil look)))))))))))))))
theorem m111_ok : MO 111 m111 := mem_run lk2_ok r111
theorem m112_ok : MO 111 m112 := mem_run lk2_ok r112
theorem m113_ok : MO 78 m113 := mem_run lk2_ok r113
theorem m114_ok : MO 104 m114 := mem_run lk2_ok r114
theorem m115_ok : MO 110 m115 := mem_run lk2_ok r115
theorem m116_ok : MO 154 m116 := mem_run lk2_ok r116
theorem m117_ok : MO 80 m117 := mem_run lk2_ok r117
theorem m118_ok : MO 111 m118 := mem_run lk2_ok r118
theorem lk3_ok : ∀ f, ZEok (fun f => afs[f]?) f (lk3 f) := (nats_cons (memZ_ok (f := 2) rfl (mc m2_ok (fun _ h => by cases h))) (nats_cons (memZ_ok (f := 50) rfl (mc m3_ok (mc m4_ok (mc m5_ok (mc m6_ok (mc m7_ok (mc m8_ok (mc m13_ok (mc m14_ok (mc m15_ok (mc m16_ok (mc m22_ok (mc m23_ok (mc m24_ok (mc m25_ok (mc m26_ok (mc m27_ok (mc m28_ok (mc m29_ok (mc m30_ok (mc m31_ok (mc m32_ok (mc m33_ok (mc m40_ok (mc m41_ok (mc m42_ok (mc m43_ok (mc m44_ok (mc m45_ok (mc m46_ok (mc m47_ok (mc m48_ok (mc m49_ok (mc m50_ok (fun _ h => by cases h))))))))))))))))))))))))))))))))))) (nats_cons (memZ_ok (f := 54) rfl (mc m53_ok (mc m54_ok (mc m61_ok (mc m79_ok (mc m80_ok (mc m95_ok (fun _ h => by cases h)))))))) (nats_cons (memZ_ok (f := 55) rfl (mc m55_ok (mc m56_ok (mc m57_ok (mc m58_ok (mc m59_ok (mc m62_ok (mc m63_ok (mc m64_ok (mc m65_ok (mc m66_ok (mc m67_ok (mc m68_ok (mc m81_ok (mc m82_ok (mc m83_ok (mc m84_ok (mc m85_ok (mc m86_ok (mc m87_ok (mc m88_ok (mc m89_ok (mc m90_ok (mc m91_ok (mc m92_ok (mc m96_ok (mc m97_ok (mc m98_ok (mc m99_ok (mc m100_ok (mc m101_ok (mc m102_ok (mc m103_ok (mc m104_ok (mc m105_ok (mc m106_ok (mc m107_ok (mc m108_ok (mc m109_ok (mc m110_ok (fun _ h => by cases h))))))))))))))))))))))))))))))))))))))))) (nats_cons (memZ_ok (f := 78) rfl (mc m113_ok (fun _ h => by cases h))) (nats_cons (memZ_ok (f := 79) rfl (mc m0_ok (mc m10_ok (mc m18_ok (mc m20_ok (mc m35_ok (fun _ h => by cases h))))))) (nats_cons (memZ_ok (f := 80) rfl (mc m52_ok (mc m60_ok (mc m117_ok (fun _ h => by cases h))))) (nats_cons (memZ_ok (f := 82) rfl (mc m19_ok (fun _ h => by cases h))) (nats_cons (memZ_ok (f := 95) rfl (mc m21_ok (fun _ h => by cases h))) (nats_cons (memZ_ok (f := 96) rfl (mc m1_ok (mc m11_ok (mc m12_ok (mc m36_ok (mc m37_ok (mc m38_ok (mc m39_ok (mc m69_ok (mc m70_ok (mc m71_ok (mc m72_ok (mc m73_ok (mc m74_ok (mc m75_ok (mc m76_ok (mc m77_ok (fun _ h => by cases h)))))))))))))))))) (nats_cons (memZ_ok (f := 97) rfl (mc m78_ok (fun _ h => by cases h))) (nats_cons (memZ_ok (f := 104) rfl (mc m94_ok (mc m114_ok (fun _ h => by cases h)))) (nats_cons (memZ_ok (f := 110) rfl (mc m115_ok (fun _ h => by cases h))) (nats_cons (memZ_ok (f := 111) rfl (mc m111_ok (mc m112_ok (mc m118_ok (fun _ h => by cases h))))) (nats_cons (memZ_ok (f := 122) rfl (mc m93_ok (fun _ h => by cases h))) (nats_cons (memZ_ok (f := 125) rfl (mc m34_ok (fun _ h => by cases h))) (nats_cons (memZ_ok (f := 154) rfl (mc m116_ok (fun _ h => by cases h))) (nats_cons (memZ_ok (f := 177) rfl (mc m9_ok (mc m17_ok (mc m51_ok (fun _ h => by cases h))))) (nats_nil look)))))))))))))))))))
theorem m119_ok : MO 78 m119 := mem_run lk3_ok r119
theorem m120_ok : MO 78 m120 := mem_run lk3_ok r120
theorem m121_ok : MO 179 m121 := mem_run lk3_ok r121
theorem m122_ok : MO 80 m122 := mem_run lk3_ok r122
theorem m123_ok : MO 111 m123 := mem_run lk3_ok r123
theorem m124_ok : MO 177 m124 := mem_run lk3_ok r124
theorem m125_ok : MO 78 m125 := mem_run lk3_ok r125
theorem lk4_ok : ∀ f, ZEok (fun f => afs[f]?) f (lk4 f) := (nats_cons (memZ_ok (f := 2) rfl (mc m2_ok (fun _ h => by cases h))) (nats_cons (memZ_ok (f := 50) rfl (mc m3_ok (mc m4_ok (mc m5_ok (mc m6_ok (mc m7_ok (mc m8_ok (mc m13_ok (mc m14_ok (mc m15_ok (mc m16_ok (mc m22_ok (mc m23_ok (mc m24_ok (mc m25_ok (mc m26_ok (mc m27_ok (mc m28_ok (mc m29_ok (mc m30_ok (mc m31_ok (mc m32_ok (mc m33_ok (mc m40_ok (mc m41_ok (mc m42_ok (mc m43_ok (mc m44_ok (mc m45_ok (mc m46_ok (mc m47_ok (mc m48_ok (mc m49_ok (mc m50_ok (fun _ h => by cases h))))))))))))))))))))))))))))))))))) (nats_cons (memZ_ok (f := 54) rfl (mc m53_ok (mc m54_ok (mc m61_ok (mc m79_ok (mc m80_ok (mc m95_ok (fun _ h => by cases h)))))))) (nats_cons (memZ_ok (f := 55) rfl (mc m55_ok (mc m56_ok (mc m57_ok (mc m58_ok (mc m59_ok (mc m62_ok (mc m63_ok (mc m64_ok (mc m65_ok (mc m66_ok (mc m67_ok (mc m68_ok (mc m81_ok (mc m82_ok (mc m83_ok (mc m84_ok (mc m85_ok (mc m86_ok (mc m87_ok (mc m88_ok (mc m89_ok (mc m90_ok (mc m91_ok (mc m92_ok (mc m96_ok (mc m97_ok (mc m98_ok (mc m99_ok (mc m100_ok (mc m101_ok (mc m102_ok (mc m103_ok (mc m104_ok (mc m105_ok (mc m106_ok (mc m107_ok (mc m108_ok (mc m109_ok (mc m110_ok (fun _ h => by cases h))))))))))))))))))))))))))))))))))))))))) (nats_cons (memZ_ok (f := 78) rfl (mc m113_ok (mc m119_ok (mc m120_ok (mc m125_ok (fun _ h => by cases h)))))) (nats_cons (memZ_ok (f := 79) rfl (mc m0_ok (mc m10_ok (mc m18_ok (mc m20_ok (mc m35_ok (fun _ h => by cases h))))))) (nats_cons (memZ_ok (f := 80) rfl (mc m52_ok (mc m60_ok (mc m117_ok (mc m122_ok (fun _ h => by cases h)))))) (nats_cons (memZ_ok (f := 82) rfl (mc m19_ok (fun _ h => by cases h))) (nats_cons (memZ_ok (f := 95) rfl (mc m21_ok (fun _ h => by cases h))) (nats_cons (memZ_ok (f := 96) rfl (mc m1_ok (mc m11_ok (mc m12_ok (mc m36_ok (mc m37_ok (mc m38_ok (mc m39_ok (mc m69_ok (mc m70_ok (mc m71_ok (mc m72_ok (mc m73_ok (mc m74_ok (mc m75_ok (mc m76_ok (mc m77_ok (fun _ h => by cases h)))))))))))))))))) (nats_cons (memZ_ok (f := 97) rfl (mc m78_ok (fun _ h => by cases h))) (nats_cons (memZ_ok (f := 104) rfl (mc m94_ok (mc m114_ok (fun _ h => by cases h)))) (nats_cons (memZ_ok (f := 110) rfl (mc m115_ok (fun _ h => by cases h))) (nats_cons (memZ_ok (f := 111) rfl (mc m111_ok (mc m112_ok (mc m118_ok (mc m123_ok (fun _ h => by cases h)))))) (nats_cons (memZ_ok (f := 122) rfl (mc m93_ok (fun _ h => by cases h))) (nats_cons (memZ_ok (f := 125) rfl (mc m34_ok (fun _ h => by cases h))) (nats_cons (memZ_ok (f := 154) rfl (mc m116_ok (fun _ h => by cases h))) (nats_cons (memZ_ok (f := 177) rfl (mc m9_ok (mc m17_ok (mc m51_ok (mc m124_ok (fun _ h => by cases h)))))) (nats_cons (memZ_ok (f := 179) rfl (mc m121_ok (fun _ h => by cases h))) (nats_nil look))))))))))))))))))))
theorem m126_ok : MO 179 m126 := mem_run lk4_ok r126
theorem m127_ok : MO 179 m127 := mem_run lk4_ok r127
theorem m128_ok : MO 78 m128 := mem_run lk4_ok r128
theorem m129_ok : MO 179 m129 := mem_run lk4_ok r129
theorem lk5_ok : ∀ f, ZEok (fun f => afs[f]?) f (lk5 f) := (nats_cons (memZ_ok (f := 2) rfl (mc m2_ok (fun _ h => by cases h))) (nats_cons (memZ_ok (f := 50) rfl (mc m3_ok (mc m4_ok (mc m5_ok (mc m6_ok (mc m7_ok (mc m8_ok (mc m13_ok (mc m14_ok (mc m15_ok (mc m16_ok (mc m22_ok (mc m23_ok (mc m24_ok (mc m25_ok (mc m26_ok (mc m27_ok (mc m28_ok (mc m29_ok (mc m30_ok (mc m31_ok (mc m32_ok (mc m33_ok (mc m40_ok (mc m41_ok (mc m42_ok (mc m43_ok (mc m44_ok (mc m45_ok (mc m46_ok (mc m47_ok (mc m48_ok (mc m49_ok (mc m50_ok (fun _ h => by cases h))))))))))))))))))))))))))))))))))) (nats_cons (memZ_ok (f := 54) rfl (mc m53_ok (mc m54_ok (mc m61_ok (mc m79_ok (mc m80_ok (mc m95_ok (fun _ h => by cases h)))))))) (nats_cons (memZ_ok (f := 55) rfl (mc m55_ok (mc m56_ok (mc m57_ok (mc m58_ok (mc m59_ok (mc m62_ok (mc m63_ok (mc m64_ok (mc m65_ok (mc m66_ok (mc m67_ok (mc m68_ok (mc m81_ok (mc m82_ok (mc m83_ok (mc m84_ok (mc m85_ok (mc m86_ok (mc m87_ok (mc m88_ok (mc m89_ok (mc m90_ok (mc m91_ok (mc m92_ok (mc m96_ok (mc m97_ok (mc m98_ok (mc m99_ok (mc m100_ok (mc m101_ok (mc m102_ok (mc m103_ok (mc m104_ok (mc m105_ok (mc m106_ok (mc m107_ok (mc m108_ok (mc m109_ok (mc m110_ok (fun _ h => by cases h))))))))))))))))))))))))))))))))))))))))) (nats_cons (memZ_ok (f := 78) rfl (mc m113_ok (mc m119_ok (mc m120_ok (mc m125_ok (mc m128_ok (fun _ h => by cases h))))))) (nats_cons (memZ_ok (f := 79) rfl (mc m0_ok (mc m10_ok (mc m18_ok (mc m20_ok (mc m35_ok (fun _ h => by cases h))))))) (nats_cons (memZ_ok (f := 80) rfl (mc m52_ok (mc m60_ok (mc m117_ok (mc m122_ok (fun _ h => by cases h)))))) (nats_cons (memZ_ok (f := 82) rfl (mc m19_ok (fun _ h => by cases h))) (nats_cons (memZ_ok (f := 95) rfl (mc m21_ok (fun _ h => by cases h))) (nats_cons (memZ_ok (f := 96) rfl (mc m1_ok (mc m11_ok (mc m12_ok (mc m36_ok (mc m37_ok (mc m38_ok (mc m39_ok (mc m69_ok (mc m70_ok (mc m71_ok (mc m72_ok (mc m73_ok (mc m74_ok (mc m75_ok (mc m76_ok (mc m77_ok (fun _ h => by cases h)))))))))))))))))) (nats_cons (memZ_ok (f := 97) rfl (mc m78_ok (fun _ h => by cases h))) (nats_cons (memZ_ok (f := 104) rfl (mc m94_ok (mc m114_ok (fun _ h => by cases h)))) (nats_cons (memZ_ok (f := 110) rfl (mc m115_ok (fun _ h => by cases h))) (nats_cons (memZ_ok (f := 111) rfl (mc m111_ok (mc m112_ok (mc m118_ok (mc m123_ok (fun _ h => by cases h)))))) (nats_cons (memZ_ok (f := 122) rfl (mc m93_ok (fun _ h => by cases h))) (nats_cons (memZ_ok (f := 125) rfl (mc m34_ok (fun _ h => by cases h))) (nats_cons (memZ_ok (f := 154) rfl (mc m116_ok (fun _ h => by cases h))) (nats_cons (memZ_ok (f := 177) rfl (mc m9_ok (mc m17_ok (mc m51_ok (mc m124_ok (fun _ h => by cases h)))))) (nats_cons (memZ_ok (f := 179) rfl (mc m121_ok (mc m126_ok (mc m127_ok (mc m129_ok (fun _ h => by cases h)))))) (nats_nil look))))))))))))))))))))
theorem m130_ok : MO 179 m130 := mem_run lk5_ok r130
theorem lk6_ok : ∀ f, ZEok (fun f => afs[f]?) f (lk6 f) := (nats_cons (memZ_ok (f := 2) rfl (mc m2_ok (fun _ h => by cases h))) (nats_cons (memZ_ok (f := 50) rfl (mc m3_ok (mc m4_ok (mc m5_ok (mc m6_ok (mc m7_ok (mc m8_ok (mc m13_ok (mc m14_ok (mc m15_ok (mc m16_ok (mc m22_ok (mc m23_ok (mc m24_ok (mc m25_ok (mc m26_ok (mc m27_ok (mc m28_ok (mc m29_ok (mc m30_ok (mc m31_ok (mc m32_ok (mc m33_ok (mc m40_ok (mc m41_ok (mc m42_ok (mc m43_ok (mc m44_ok (mc m45_ok (mc m46_ok (mc m47_ok (mc m48_ok (mc m49_ok (mc m50_ok (fun _ h => by cases h))))))))))))))))))))))))))))))))))) (nats_cons (memZ_ok (f := 54) rfl (mc m53_ok (mc m54_ok (mc m61_ok (mc m79_ok (mc m80_ok (mc m95_ok (fun _ h => by cases h)))))))) (nats_cons (memZ_ok (f := 55) rfl (mc m55_ok (mc m56_ok (mc m57_ok (mc m58_ok (mc m59_ok (mc m62_ok (mc m63_ok (mc m64_ok (mc m65_ok (mc m66_ok (mc m67_ok (mc m68_ok (mc m81_ok (mc m82_ok (mc m83_ok (mc m84_ok (mc m85_ok (mc m86_ok (mc m87_ok (mc m88_ok (mc m89_ok (mc m90_ok (mc m91_ok (mc m92_ok (mc m96_ok (mc m97_ok (mc m98_ok (mc m99_ok (mc m100_ok (mc m101_ok (mc m102_ok (mc m103_ok (mc m104_ok (mc m105_ok (mc m106_ok (mc m107_ok (mc m108_ok (mc m109_ok (mc m110_ok (fun _ h => by cases h))))))))))))))))))))))))))))))))))))))))) (nats_cons (memZ_ok (f := 78) rfl (mc m113_ok (mc m119_ok (mc m120_ok (mc m125_ok (mc m128_ok (fun _ h => by cases h))))))) (nats_cons (memZ_ok (f := 79) rfl (mc m0_ok (mc m10_ok (mc m18_ok (mc m20_ok (mc m35_ok (fun _ h => by cases h))))))) (nats_cons (memZ_ok (f := 80) rfl (mc m52_ok (mc m60_ok (mc m117_ok (mc m122_ok (fun _ h => by cases h)))))) (nats_cons (memZ_ok (f := 82) rfl (mc m19_ok (fun _ h => by cases h))) (nats_cons (memZ_ok (f := 95) rfl (mc m21_ok (fun _ h => by cases h))) (nats_cons (memZ_ok (f := 96) rfl (mc m1_ok (mc m11_ok (mc m12_ok (mc m36_ok (mc m37_ok (mc m38_ok (mc m39_ok (mc m69_ok (mc m70_ok (mc m71_ok (mc m72_ok (mc m73_ok (mc m74_ok (mc m75_ok (mc m76_ok (mc m77_ok (fun _ h => by cases h)))))))))))))))))) (nats_cons (memZ_ok (f := 97) rfl (mc m78_ok (fun _ h => by cases h))) (nats_cons (memZ_ok (f := 104) rfl (mc m94_ok (mc m114_ok (fun _ h => by cases h)))) (nats_cons (memZ_ok (f := 110) rfl (mc m115_ok (fun _ h => by cases h))) (nats_cons (memZ_ok (f := 111) rfl (mc m111_ok (mc m112_ok (mc m118_ok (mc m123_ok (fun _ h => by cases h)))))) (nats_cons (memZ_ok (f := 122) rfl (mc m93_ok (fun _ h => by cases h))) (nats_cons (memZ_ok (f := 125) rfl (mc m34_ok (fun _ h => by cases h))) (nats_cons (memZ_ok (f := 154) rfl (mc m116_ok (fun _ h => by cases h))) (nats_cons (memZ_ok (f := 177) rfl (mc m9_ok (mc m17_ok (mc m51_ok (mc m124_ok (fun _ h => by cases h)))))) (nats_cons (memZ_ok (f := 179) rfl (mc m121_ok (mc m126_ok (mc m127_ok (mc m129_ok (mc m130_ok (fun _ h => by cases h))))))) (nats_nil look))))))))))))))))))))
theorem begunIs : evC (fun f => afs[f]?) 180 [] heap0 = some (.ret (.bool true) heap0) := by
  obtain ⟨H, h⟩ := tru_ret begunRun
  have h2 := runZ_ret lk6_ok (w := .nil) (H := ZH.none) trivial h
  have h3 := pure_ret (af := a180) rfl rfl h2
  rw [h3] at h2
  exact h2
theorem beg_ok : ZEok (fun f => afs[f]?) 180 onceZ := once_ok begunIs
theorem lkB_ok : ∀ f, ZEok (fun f => afs[f]?) f (lkB f) := (nats_cons beg_ok (nats_cons (memZ_ok (f := 2) rfl (mc m2_ok (fun _ h => by cases h))) (nats_cons (memZ_ok (f := 50) rfl (mc m3_ok (mc m4_ok (mc m5_ok (mc m6_ok (mc m7_ok (mc m8_ok (mc m13_ok (mc m14_ok (mc m15_ok (mc m16_ok (mc m22_ok (mc m23_ok (mc m24_ok (mc m25_ok (mc m26_ok (mc m27_ok (mc m28_ok (mc m29_ok (mc m30_ok (mc m31_ok (mc m32_ok (mc m33_ok (mc m40_ok (mc m41_ok (mc m42_ok (mc m43_ok (mc m44_ok (mc m45_ok (mc m46_ok (mc m47_ok (mc m48_ok (mc m49_ok (mc m50_ok (fun _ h => by cases h))))))))))))))))))))))))))))))))))) (nats_cons (memZ_ok (f := 54) rfl (mc m53_ok (mc m54_ok (mc m61_ok (mc m79_ok (mc m80_ok (mc m95_ok (fun _ h => by cases h)))))))) (nats_cons (memZ_ok (f := 55) rfl (mc m55_ok (mc m56_ok (mc m57_ok (mc m58_ok (mc m59_ok (mc m62_ok (mc m63_ok (mc m64_ok (mc m65_ok (mc m66_ok (mc m67_ok (mc m68_ok (mc m81_ok (mc m82_ok (mc m83_ok (mc m84_ok (mc m85_ok (mc m86_ok (mc m87_ok (mc m88_ok (mc m89_ok (mc m90_ok (mc m91_ok (mc m92_ok (mc m96_ok (mc m97_ok (mc m98_ok (mc m99_ok (mc m100_ok (mc m101_ok (mc m102_ok (mc m103_ok (mc m104_ok (mc m105_ok (mc m106_ok (mc m107_ok (mc m108_ok (mc m109_ok (mc m110_ok (fun _ h => by cases h))))))))))))))))))))))))))))))))))))))))) (nats_cons (memZ_ok (f := 78) rfl (mc m113_ok (mc m119_ok (mc m120_ok (mc m125_ok (mc m128_ok (fun _ h => by cases h))))))) (nats_cons (memZ_ok (f := 79) rfl (mc m0_ok (mc m10_ok (mc m18_ok (mc m20_ok (mc m35_ok (fun _ h => by cases h))))))) (nats_cons (memZ_ok (f := 80) rfl (mc m52_ok (mc m60_ok (mc m117_ok (mc m122_ok (fun _ h => by cases h)))))) (nats_cons (memZ_ok (f := 82) rfl (mc m19_ok (fun _ h => by cases h))) (nats_cons (memZ_ok (f := 95) rfl (mc m21_ok (fun _ h => by cases h))) (nats_cons (memZ_ok (f := 96) rfl (mc m1_ok (mc m11_ok (mc m12_ok (mc m36_ok (mc m37_ok (mc m38_ok (mc m39_ok (mc m69_ok (mc m70_ok (mc m71_ok (mc m72_ok (mc m73_ok (mc m74_ok (mc m75_ok (mc m76_ok (mc m77_ok (fun _ h => by cases h)))))))))))))))))) (nats_cons (memZ_ok (f := 97) rfl (mc m78_ok (fun _ h => by cases h))) (nats_cons (memZ_ok (f := 104) rfl (mc m94_ok (mc m114_ok (fun _ h => by cases h)))) (nats_cons (memZ_ok (f := 110) rfl (mc m115_ok (fun _ h => by cases h))) (nats_cons (memZ_ok (f := 111) rfl (mc m111_ok (mc m112_ok (mc m118_ok (mc m123_ok (fun _ h => by cases h)))))) (nats_cons (memZ_ok (f := 122) rfl (mc m93_ok (fun _ h => by cases h))) (nats_cons (memZ_ok (f := 125) rfl (mc m34_ok (fun _ h => by cases h))) (nats_cons (memZ_ok (f := 154) rfl (mc m116_ok (fun _ h => by cases h))) (nats_cons (memZ_ok (f := 177) rfl (mc m9_ok (mc m17_ok (mc m51_ok (mc m124_ok (fun _ h => by cases h)))))) (nats_cons (memZ_ok (f := 179) rfl (mc m121_ok (mc m126_ok (mc m127_ok (mc m129_ok (mc m130_ok (fun _ h => by cases h))))))) (nats_nil look)))))))))))))))))))))
theorem cg77 (a : Nat) (ha : a < 9223372036854775808) (kind : IntKind) (H : Heap) (v : AV) (H' : Heap) (h : evC (fun f => afs[f]?) 77 [.int kind ((a % 5 : Nat) : Int)] H = some (.ret v H')) : evC (fun f => afs[f]?) 77 [.int kind (a : Int)] H = some (.ret v H') :=
  evC_cg (D := [0, 6, 7]) (M := [5]) (F := []) ⟨⟨wrap_small (by omega), wrap_small (by omega)⟩, fun m hm => by simp only [List.mem_singleton] at hm; subst hm; exact ⟨by decide, tmod_cast a 5⟩, fun f hf => by cases hf⟩ (af := a77) rfl (by kernel_rfl) (by kernel_rfl) (p := 0) (k := kind) rfl rfl (fun s hs => by simp at hs; simp only [List.length_cons, List.length_nil]; omega) h
theorem cg179 (a : Nat) (ha : a < 9223372036854775808) (kind : IntKind) (H : Heap) (v : AV) (H' : Heap) (h : evC (fun f => afs[f]?) 179 [.int kind ((a % 5 : Nat) : Int)] H = some (.ret v H')) : evC (fun f => afs[f]?) 179 [.int kind (a : Int)] H = some (.ret v H') :=
  evC_cg (D := [0, 7]) (M := []) (F := [77]) ⟨⟨wrap_small (by omega), wrap_small (by omega)⟩, (fun m hm => by cases hm), fun f hf => by simp only [List.mem_singleton] at hf; subst hf; exact cg77 a ha⟩ (af := a179) rfl (by kernel_rfl) (by kernel_rfl) (p := 0) (k := kind) rfl rfl (fun s hs => by simp at hs; simp only [List.length_cons, List.length_nil]; omega) h
theorem run0 (n : Nat) (hn : n < 5) : (fun a : Nat => tru (callZ lkB 100000 181 (.one (.u 0 a) .nil) ZH.none)) n = true := by
  match n, hn with
  | 0, _ => exact run0_0
  | 1, _ => exact run0_1
  | 2, _ => exact run0_2
  | 3, _ => exact run0_3
  | 4, _ => exact run0_4
  | n + 5, h => exact absurd h (by omega)
theorem all0 (a : Nat) (ha : a < 256)  : ∃ H', evC (fun f => afs[f]?) 181 [.int .u8 (a : Int)] heap0 = some (.ret (.bool true) H') := by
  have ra := run0 (a % 5) (Nat.mod_lt _ (by decide))
  obtain ⟨Hr, h0⟩ := tru_ret (ra)
  have h0 := runZ_ret lkB_ok (w := .one (.u 0 (a % 5)) .nil) (H := ZH.none) trivial h0
  have g0 : evC (fun f => afs[f]?) 181 [.int .u8 ((a % 5 : Nat) : Int)] heap0 = some (.ret (.bool true) Hr.heap) := h0
  have g1 : evC (fun f => afs[f]?) 181 [.int .u8 (a : Int)] heap0 = some (.ret (.bool true) Hr.heap) := evC_cg (D := [0, 10]) (M := []) (F := [179]) (vs := [.int .u8 ((a % 5 : Nat) : Int)]) ⟨⟨wrap_small (by omega), wrap_small (by omega)⟩, (fun m hm => by cases hm), fun f hf => by simp only [List.mem_singleton] at hf; subst hf; exact cg179 a (by omega)⟩ (af := a181) rfl (by kernel_rfl) (by kernel_rfl) (p := 0) (k := .u8) (b := (a : Int)) rfl rfl (fun s hs => by simp at hs; simp only [List.length_cons, List.length_nil]; omega) g0
  exact ⟨_, g1⟩
end Ey.Tg
namespace Go.Proofs.YtcbmfmdmmbcehaaGreat.tableGiven
open Go Go.ChangeShapes Go.WideShapes Go.ChangeAt Go.RowKit
theorem own : ownKnob Tryz.prog.godebug = none := by kernel_rfl
theorem walk (a : Nat) (ha : a < 256) (W : World) (hw : ∀ b o v, Ey.Tg.cx.gl b o = some v → W.cell? ⟨b, o, none⟩ = some v ∧ b < W.heap.size) : Calls Tryz.prog 3 #[.int .u8 (a : Int)] W fun e w' => e = .returned (.bool true) ∧ Below W.heap.size W w' := by
  obtain ⟨H', h⟩ := Ey.Tg.all0 a ha
  exact Ey.args_calls Ey.Tg.known (f := 181) (fid := 3) rfl (vs := [.int .u8 (a : Int)]) rfl (fun g => Ey.vr_ints [(.u8, (a : Int))] g) h W hw
theorem lifted (os : Os) (started : os.Started) (H : Type) (enc : TypeId × Value → H) :
    ReturnsInHanded {} Tryz.checked os 3 .any (Rows.tableGivenSpec.pre6 enc Tryz.prog Tryz.f3 Rows.tableGivenRow.domain false) (Rows.tableGivenSpec.post enc Tryz.prog Tryz.f3 false true false false) := by
  refine returnsInHanded_of_change (C := Tryz.checked) own started (by kernel_rfl) Tryz.func3
    (ChangeSpec.witness6 (enc := enc) (C := Tryz.checked) false ⟨#[], #[.int .u8 0], []⟩ 8 (by kernel_rfl) (by kernel_rfl) (by kernel_rfl) (by kernel_rfl)) ?_
  intro W base args ds gs before hval0 hW _ _
  have hval : ∀ (j : Nat) t v, Tryz.f3.params[j]? = some t → args[j]? = some v → Value.okWide Tryz.prog W .any base t v := hval0
  have hW' := hW
  obtain ⟨p, q, hA0, hV, rfl, _, _⟩ := hW
  have hA : DataW.TrodAll enc Tryz.prog W 0 (fun _ => true) true Tryz.f3.params.toList args.toList ds p := hA0
  rw [Tryz.params3] at hA hval
  obtain ⟨v0, d0, rfl, rfl, h0⟩ := trodAll_one hA
  obtain ⟨rfl, rfl⟩ := trodVars_none hV
  obtain ⟨z0, rfl, rfl, rfl, w0⟩ := open_int Tryz.underlying5 (hval 0 5 v0 rfl rfl) h0
  clear hA0 hval0
  simp only [List.append_nil] at hW'
  obtain ⟨a, ha, rfl⟩ : ∃ a : Nat, a < 256 ∧ z0 = (a : Int) := by
    have hz : 0 ≤ z0 ∧ z0 ≤ 255 := by simpa [Lit.wf, IntKind.min, IntKind.max, IntKind.signed, IntKind.bits] using w0
    exact ⟨z0.toNat, by omega, by omega⟩
  refine (walk a ha W (fun b o v h => by simp [Ey.Tg.cx, Ey.glf] at h)).mono fun e W' ⟨he, hb⟩ => ?_
  subst he
  exact ⟨_, rfl, Ey.post_low (pa := []) (pv := []) hW' (fun _ _ _ => trodAll_mk1 (shut_bool Tryz.underlying4 _)) (fun sp _ => trodAll_mk1 (shut_int Tryz.underlying5 w0)) (fun _ _ => rfl) rfl hb (ok_one (by kernel_rfl) rfl (okWide_bool_mk Tryz.underlying4 _))⟩
theorem over : Rows.TableGivenSaid :=
  OpenClaim.holds_of_wide 3 Tryz.f3 rfl rfl rfl rfl rfl rfl rfl ⟨rfl, rfl, rfl, rfl, rfl⟩ rfl rfl rfl rfl rfl (by kernel_rfl) Tryz.func3 facts
    (of_decide_eq_true (by kernel_rfl)) (by unfold Func.isWrapper; first | (rw [if_pos (by decide +kernel)]; kernel_rfl) | (rw [if_neg (by decide +kernel)]; exact ⟨rfl, rfl⟩))
    (fun os started H enc _ => lifted os started H enc)
/-- the statement -/
theorem proved : Rows.TableGivenSaid := over
end Go.Proofs.YtcbmfmdmmbcehaaGreat.tableGiven
