/- The statement Rows.GtextLinesCardSaid, that the law answers true whatever its arguments, is proved, under no condition: the law's functions are held against code of a small language of our own (YtcgfhnndkhkdgaaGreatDoorGlC), whose evaluator the kernel runs at one argument of each remainder. -/
import Derived.Test.YtcgfhnndkhkdgaaGreatDoorGlQ0
import Derived.Test.YtcgfhnndkhkdgaaGreatDoorGlQ1
import Derived.Test.YtcgfhnndkhkdgaaGreatDoorGlQ2
import Derived.Test.YtcgfhnndkhkdgaaGreatDoorGlQ3
import Derived.Test.YtcgfhnndkhkdgaaGreatDoorGlQ4
import Derived.Test.YtcgfhnndkhkdgaaGreatDoorGlQ5
import Derived.Test.YtcgfhnndkhkdgaaGreatDoorGlQ6
import Derived.Test.YtcgfhnndkhkdgaaGreatDoorGlQ7
import Derived.Test.YtcgfhnndkhkdgaaGreatDoorGlF
import Derived.Test.YtcgfhnndkhkdgaaGreatDoorGlR0
import Derived.Test.YtcgfhnndkhkdgaaGreatDoorGlC
import Derived.Test.YtcgfhnndkhkdgaaGreatDoorEyB4
import Derived.ProofKit
import Derived.OpenShut
import Derived.Test.YtcgfhnndkhkdgaaGreatDoorTie
import Derived.Test.YtcgfhnndkhkdgaaGreatDoorCards
import Derived.SevenTiedAt
set_option maxRecDepth 1000000
namespace Ey.Gl
open Go (IntKind)
theorem lk0_ok : ∀ f, ZEok (fun f => afs[f]?) f (lk0 f) := (nats_nil look)
theorem m0_ok : MemOK (fun f => afs[f]?) 68 m0 := mem_run (m := m0) lk0_ok r0
theorem m1_ok : MemOK (fun f => afs[f]?) 68 m1 := mem_run (m := m1) lk0_ok r1
theorem m2_ok : MemOK (fun f => afs[f]?) 68 m2 := mem_run (m := m2) lk0_ok r2
theorem m3_ok : MemOK (fun f => afs[f]?) 68 m3 := mem_run (m := m3) lk0_ok r3
theorem m4_ok : MemOK (fun f => afs[f]?) 68 m4 := mem_run (m := m4) lk0_ok r4
theorem m5_ok : MemOK (fun f => afs[f]?) 68 m5 := mem_run (m := m5) lk0_ok r5
theorem m6_ok : MemOK (fun f => afs[f]?) 68 m6 := mem_run (m := m6) lk0_ok r6
theorem m7_ok : MemOK (fun f => afs[f]?) 53 m7 := mem_run (m := m7) lk0_ok r7
theorem m8_ok : MemOK (fun f => afs[f]?) 68 m8 := mem_run (m := m8) lk0_ok r8
theorem m9_ok : MemOK (fun f => afs[f]?) 53 m9 := mem_run (m := m9) lk0_ok r9
theorem m10_ok : MemOK (fun f => afs[f]?) 68 m10 := mem_run (m := m10) lk0_ok r10
theorem m11_ok : MemOK (fun f => afs[f]?) 68 m11 := mem_run (m := m11) lk0_ok r11
theorem m12_ok : MemOK (fun f => afs[f]?) 68 m12 := mem_run (m := m12) lk0_ok r12
theorem m13_ok : MemOK (fun f => afs[f]?) 68 m13 := mem_run (m := m13) lk0_ok r13
theorem m14_ok : MemOK (fun f => afs[f]?) 53 m14 := mem_run (m := m14) lk0_ok r14
theorem m15_ok : MemOK (fun f => afs[f]?) 31 m15 := mem_run (m := m15) lk0_ok r15
theorem m16_ok : MemOK (fun f => afs[f]?) 53 m16 := mem_run (m := m16) lk0_ok r16
theorem m17_ok : MemOK (fun f => afs[f]?) 31 m17 := mem_run (m := m17) lk0_ok r17
theorem m18_ok : MemOK (fun f => afs[f]?) 53 m18 := mem_run (m := m18) lk0_ok r18
theorem m19_ok : MemOK (fun f => afs[f]?) 31 m19 := mem_run (m := m19) lk0_ok r19
theorem m20_ok : MemOK (fun f => afs[f]?) 53 m20 := mem_run (m := m20) lk0_ok r20
theorem m21_ok : MemOK (fun f => afs[f]?) 26 m21 := mem_run (m := m21) lk0_ok r21
theorem m22_ok : MemOK (fun f => afs[f]?) 53 m22 := mem_run (m := m22) lk0_ok r22
theorem m23_ok : MemOK (fun f => afs[f]?) 37 m23 := mem_run (m := m23) lk0_ok r23
theorem m24_ok : MemOK (fun f => afs[f]?) 68 m24 := mem_run (m := m24) lk0_ok r24
theorem m25_ok : MemOK (fun f => afs[f]?) 68 m25 := mem_run (m := m25) lk0_ok r25
theorem m26_ok : MemOK (fun f => afs[f]?) 93 m26 := mem_run (m := m26) lk0_ok r26
theorem m27_ok : MemOK (fun f => afs[f]?) 93 m27 := mem_run (m := m27) lk0_ok r27
theorem m28_ok : MemOK (fun f => afs[f]?) 93 m28 := mem_run (m := m28) lk0_ok r28
theorem m29_ok : MemOK (fun f => afs[f]?) 93 m29 := mem_run (m := m29) lk0_ok r29
theorem m30_ok : MemOK (fun f => afs[f]?) 68 m30 := mem_run (m := m30) lk0_ok r30
theorem m31_ok : MemOK (fun f => afs[f]?) 68 m31 := mem_run (m := m31) lk0_ok r31
theorem m32_ok : MemOK (fun f => afs[f]?) 68 m32 := mem_run (m := m32) lk0_ok r32
theorem m33_ok : MemOK (fun f => afs[f]?) 68 m33 := mem_run (m := m33) lk0_ok r33
theorem m34_ok : MemOK (fun f => afs[f]?) 68 m34 := mem_run (m := m34) lk0_ok r34
theorem m35_ok : MemOK (fun f => afs[f]?) 68 m35 := mem_run (m := m35) lk0_ok r35
theorem m36_ok : MemOK (fun f => afs[f]?) 68 m36 := mem_run (m := m36) lk0_ok r36
theorem m37_ok : MemOK (fun f => afs[f]?) 68 m37 := mem_run (m := m37) lk0_ok r37
theorem m38_ok : MemOK (fun f => afs[f]?) 68 m38 := mem_run (m := m38) lk0_ok r38
theorem m39_ok : MemOK (fun f => afs[f]?) 68 m39 := mem_run (m := m39) lk0_ok r39
theorem m40_ok : MemOK (fun f => afs[f]?) 68 m40 := mem_run (m := m40) lk0_ok r40
theorem m41_ok : MemOK (fun f => afs[f]?) 68 m41 := mem_run (m := m41) lk0_ok r41
theorem m42_ok : MemOK (fun f => afs[f]?) 68 m42 := mem_run (m := m42) lk0_ok r42
theorem m43_ok : MemOK (fun f => afs[f]?) 68 m43 := mem_run (m := m43) lk0_ok r43
theorem m44_ok : MemOK (fun f => afs[f]?) 68 m44 := mem_run (m := m44) lk0_ok r44
theorem m45_ok : MemOK (fun f => afs[f]?) 68 m45 := mem_run (m := m45) lk0_ok r45
theorem m46_ok : MemOK (fun f => afs[f]?) 68 m46 := mem_run (m := m46) lk0_ok r46
theorem m47_ok : MemOK (fun f => afs[f]?) 68 m47 := mem_run (m := m47) lk0_ok r47
theorem m48_ok : MemOK (fun f => afs[f]?) 68 m48 := mem_run (m := m48) lk0_ok r48
theorem m49_ok : MemOK (fun f => afs[f]?) 68 m49 := mem_run (m := m49) lk0_ok r49
theorem m50_ok : MemOK (fun f => afs[f]?) 68 m50 := mem_run (m := m50) lk0_ok r50
theorem m51_ok : MemOK (fun f => afs[f]?) 68 m51 := mem_run (m := m51) lk0_ok r51
theorem m52_ok : MemOK (fun f => afs[f]?) 53 m52 := mem_run (m := m52) lk0_ok r52
theorem m53_ok : MemOK (fun f => afs[f]?) 68 m53 := mem_run (m := m53) lk0_ok r53
theorem m54_ok : MemOK (fun f => afs[f]?) 68 m54 := mem_run (m := m54) lk0_ok r54
theorem m55_ok : MemOK (fun f => afs[f]?) 68 m55 := mem_run (m := m55) lk0_ok r55
theorem m56_ok : MemOK (fun f => afs[f]?) 68 m56 := mem_run (m := m56) lk0_ok r56
theorem m57_ok : MemOK (fun f => afs[f]?) 68 m57 := mem_run (m := m57) lk0_ok r57
theorem m58_ok : MemOK (fun f => afs[f]?) 53 m58 := mem_run (m := m58) lk0_ok r58
theorem m59_ok : MemOK (fun f => afs[f]?) 31 m59 := mem_run (m := m59) lk0_ok r59
theorem m60_ok : MemOK (fun f => afs[f]?) 53 m60 := mem_run (m := m60) lk0_ok r60
theorem m61_ok : MemOK (fun f => afs[f]?) 31 m61 := mem_run (m := m61) lk0_ok r61
theorem m62_ok : MemOK (fun f => afs[f]?) 31 m62 := mem_run (m := m62) lk0_ok r62
theorem m63_ok : MemOK (fun f => afs[f]?) 53 m63 := mem_run (m := m63) lk0_ok r63
theorem m64_ok : MemOK (fun f => afs[f]?) 26 m64 := mem_run (m := m64) lk0_ok r64
theorem m65_ok : MemOK (fun f => afs[f]?) 53 m65 := mem_run (m := m65) lk0_ok r65
theorem m66_ok : MemOK (fun f => afs[f]?) 26 m66 := mem_run (m := m66) lk0_ok r66
theorem m67_ok : MemOK (fun f => afs[f]?) 53 m67 := mem_run (m := m67) lk0_ok r67
theorem m68_ok : MemOK (fun f => afs[f]?) 26 m68 := mem_run (m := m68) lk0_ok r68
theorem m69_ok : MemOK (fun f => afs[f]?) 68 m69 := mem_run (m := m69) lk0_ok r69
theorem m70_ok : MemOK (fun f => afs[f]?) 68 m70 := mem_run (m := m70) lk0_ok r70
theorem m71_ok : MemOK (fun f => afs[f]?) 68 m71 := mem_run (m := m71) lk0_ok r71
theorem m72_ok : MemOK (fun f => afs[f]?) 68 m72 := mem_run (m := m72) lk0_ok r72
theorem m73_ok : MemOK (fun f => afs[f]?) 68 m73 := mem_run (m := m73) lk0_ok r73
theorem m74_ok : MemOK (fun f => afs[f]?) 68 m74 := mem_run (m := m74) lk0_ok r74
theorem m75_ok : MemOK (fun f => afs[f]?) 68 m75 := mem_run (m := m75) lk0_ok r75
theorem m76_ok : MemOK (fun f => afs[f]?) 68 m76 := mem_run (m := m76) lk0_ok r76
theorem m77_ok : MemOK (fun f => afs[f]?) 68 m77 := mem_run (m := m77) lk0_ok r77
theorem m78_ok : MemOK (fun f => afs[f]?) 68 m78 := mem_run (m := m78) lk0_ok r78
theorem m79_ok : MemOK (fun f => afs[f]?) 68 m79 := mem_run (m := m79) lk0_ok r79
theorem m80_ok : MemOK (fun f => afs[f]?) 68 m80 := mem_run (m := m80) lk0_ok r80
theorem m81_ok : MemOK (fun f => afs[f]?) 68 m81 := mem_run (m := m81) lk0_ok r81
theorem m82_ok : MemOK (fun f => afs[f]?) 68 m82 := mem_run (m := m82) lk0_ok r82
theorem m83_ok : MemOK (fun f => afs[f]?) 68 m83 := mem_run (m := m83) lk0_ok r83
theorem m84_ok : MemOK (fun f => afs[f]?) 68 m84 := mem_run (m := m84) lk0_ok r84
theorem m85_ok : MemOK (fun f => afs[f]?) 68 m85 := mem_run (m := m85) lk0_ok r85
theorem m86_ok : MemOK (fun f => afs[f]?) 68 m86 := mem_run (m := m86) lk0_ok r86
theorem m87_ok : MemOK (fun f => afs[f]?) 68 m87 := mem_run (m := m87) lk0_ok r87
theorem m88_ok : MemOK (fun f => afs[f]?) 68 m88 := mem_run (m := m88) lk0_ok r88
theorem m89_ok : MemOK (fun f => afs[f]?) 68 m89 := mem_run (m := m89) lk0_ok r89
theorem m90_ok : MemOK (fun f => afs[f]?) 31 m90 := mem_run (m := m90) lk0_ok r90
theorem m91_ok : MemOK (fun f => afs[f]?) 31 m91 := mem_run (m := m91) lk0_ok r91
theorem m92_ok : MemOK (fun f => afs[f]?) 53 m92 := mem_run (m := m92) lk0_ok r92
theorem m93_ok : MemOK (fun f => afs[f]?) 26 m93 := mem_run (m := m93) lk0_ok r93
theorem m94_ok : MemOK (fun f => afs[f]?) 37 m94 := mem_run (m := m94) lk0_ok r94
theorem m95_ok : MemOK (fun f => afs[f]?) 68 m95 := mem_run (m := m95) lk0_ok r95
theorem m96_ok : MemOK (fun f => afs[f]?) 68 m96 := mem_run (m := m96) lk0_ok r96
theorem m97_ok : MemOK (fun f => afs[f]?) 68 m97 := mem_run (m := m97) lk0_ok r97
theorem m98_ok : MemOK (fun f => afs[f]?) 68 m98 := mem_run (m := m98) lk0_ok r98
theorem m99_ok : MemOK (fun f => afs[f]?) 68 m99 := mem_run (m := m99) lk0_ok r99
theorem m100_ok : MemOK (fun f => afs[f]?) 68 m100 := mem_run (m := m100) lk0_ok r100
theorem m101_ok : MemOK (fun f => afs[f]?) 68 m101 := mem_run (m := m101) lk0_ok r101
theorem m102_ok : MemOK (fun f => afs[f]?) 68 m102 := mem_run (m := m102) lk0_ok r102
theorem m103_ok : MemOK (fun f => afs[f]?) 68 m103 := mem_run (m := m103) lk0_ok r103
theorem m104_ok : MemOK (fun f => afs[f]?) 68 m104 := mem_run (m := m104) lk0_ok r104
theorem m105_ok : MemOK (fun f => afs[f]?) 68 m105 := mem_run (m := m105) lk0_ok r105
theorem m106_ok : MemOK (fun f => afs[f]?) 68 m106 := mem_run (m := m106) lk0_ok r106
theorem m107_ok : MemOK (fun f => afs[f]?) 68 m107 := mem_run (m := m107) lk0_ok r107
theorem m108_ok : MemOK (fun f => afs[f]?) 68 m108 := mem_run (m := m108) lk0_ok r108
theorem m109_ok : MemOK (fun f => afs[f]?) 68 m109 := mem_run (m := m109) lk0_ok r109
theorem m110_ok : MemOK (fun f => afs[f]?) 53 m110 := mem_run (m := m110) lk0_ok r110
theorem m111_ok : MemOK (fun f => afs[f]?) 68 m111 := mem_run (m := m111) lk0_ok r111
theorem m112_ok : MemOK (fun f => afs[f]?) 68 m112 := mem_run (m := m112) lk0_ok r112
theorem m113_ok : MemOK (fun f => afs[f]?) 68 m113 := mem_run (m := m113) lk0_ok r113
theorem m114_ok : MemOK (fun f => afs[f]?) 68 m114 := mem_run (m := m114) lk0_ok r114
theorem m115_ok : MemOK (fun f => afs[f]?) 53 m115 := mem_run (m := m115) lk0_ok r115
theorem m116_ok : MemOK (fun f => afs[f]?) 68 m116 := mem_run (m := m116) lk0_ok r116
theorem m117_ok : MemOK (fun f => afs[f]?) 68 m117 := mem_run (m := m117) lk0_ok r117
theorem m118_ok : MemOK (fun f => afs[f]?) 53 m118 := mem_run (m := m118) lk0_ok r118
theorem m119_ok : MemOK (fun f => afs[f]?) 68 m119 := mem_run (m := m119) lk0_ok r119
theorem m120_ok : MemOK (fun f => afs[f]?) 68 m120 := mem_run (m := m120) lk0_ok r120
theorem m121_ok : MemOK (fun f => afs[f]?) 68 m121 := mem_run (m := m121) lk0_ok r121
theorem m122_ok : MemOK (fun f => afs[f]?) 68 m122 := mem_run (m := m122) lk0_ok r122
theorem m123_ok : MemOK (fun f => afs[f]?) 68 m123 := mem_run (m := m123) lk0_ok r123
theorem m124_ok : MemOK (fun f => afs[f]?) 53 m124 := mem_run (m := m124) lk0_ok r124
theorem m125_ok : MemOK (fun f => afs[f]?) 31 m125 := mem_run (m := m125) lk0_ok r125
theorem m126_ok : MemOK (fun f => afs[f]?) 53 m126 := mem_run (m := m126) lk0_ok r126
theorem m127_ok : MemOK (fun f => afs[f]?) 31 m127 := mem_run (m := m127) lk0_ok r127
theorem m128_ok : MemOK (fun f => afs[f]?) 53 m128 := mem_run (m := m128) lk0_ok r128
theorem m129_ok : MemOK (fun f => afs[f]?) 31 m129 := mem_run (m := m129) lk0_ok r129
theorem m130_ok : MemOK (fun f => afs[f]?) 53 m130 := mem_run (m := m130) lk0_ok r130
theorem m131_ok : MemOK (fun f => afs[f]?) 31 m131 := mem_run (m := m131) lk0_ok r131
theorem m132_ok : MemOK (fun f => afs[f]?) 53 m132 := mem_run (m := m132) lk0_ok r132
theorem m133_ok : MemOK (fun f => afs[f]?) 31 m133 := mem_run (m := m133) lk0_ok r133
theorem m134_ok : MemOK (fun f => afs[f]?) 53 m134 := mem_run (m := m134) lk0_ok r134
theorem m135_ok : MemOK (fun f => afs[f]?) 26 m135 := mem_run (m := m135) lk0_ok r135
theorem m136_ok : MemOK (fun f => afs[f]?) 53 m136 := mem_run (m := m136) lk0_ok r136
theorem m137_ok : MemOK (fun f => afs[f]?) 26 m137 := mem_run (m := m137) lk0_ok r137
theorem m138_ok : MemOK (fun f => afs[f]?) 37 m138 := mem_run (m := m138) lk0_ok r138
theorem m139_ok : MemOK (fun f => afs[f]?) 68 m139 := mem_run (m := m139) lk0_ok r139
theorem m140_ok : MemOK (fun f => afs[f]?) 68 m140 := mem_run (m := m140) lk0_ok r140
theorem m141_ok : MemOK (fun f => afs[f]?) 68 m141 := mem_run (m := m141) lk0_ok r141
theorem m142_ok : MemOK (fun f => afs[f]?) 68 m142 := mem_run (m := m142) lk0_ok r142
theorem m143_ok : MemOK (fun f => afs[f]?) 68 m143 := mem_run (m := m143) lk0_ok r143
theorem m144_ok : MemOK (fun f => afs[f]?) 68 m144 := mem_run (m := m144) lk0_ok r144
theorem m145_ok : MemOK (fun f => afs[f]?) 68 m145 := mem_run (m := m145) lk0_ok r145
theorem m146_ok : MemOK (fun f => afs[f]?) 68 m146 := mem_run (m := m146) lk0_ok r146
theorem m147_ok : MemOK (fun f => afs[f]?) 68 m147 := mem_run (m := m147) lk0_ok r147
theorem m148_ok : MemOK (fun f => afs[f]?) 68 m148 := mem_run (m := m148) lk0_ok r148
theorem m149_ok : MemOK (fun f => afs[f]?) 68 m149 := mem_run (m := m149) lk0_ok r149
theorem m150_ok : MemOK (fun f => afs[f]?) 68 m150 := mem_run (m := m150) lk0_ok r150
theorem m151_ok : MemOK (fun f => afs[f]?) 68 m151 := mem_run (m := m151) lk0_ok r151
theorem m152_ok : MemOK (fun f => afs[f]?) 68 m152 := mem_run (m := m152) lk0_ok r152
theorem m153_ok : MemOK (fun f => afs[f]?) 68 m153 := mem_run (m := m153) lk0_ok r153
theorem m154_ok : MemOK (fun f => afs[f]?) 68 m154 := mem_run (m := m154) lk0_ok r154
theorem m155_ok : MemOK (fun f => afs[f]?) 68 m155 := mem_run (m := m155) lk0_ok r155
theorem m156_ok : MemOK (fun f => afs[f]?) 68 m156 := mem_run (m := m156) lk0_ok r156
theorem m157_ok : MemOK (fun f => afs[f]?) 68 m157 := mem_run (m := m157) lk0_ok r157
theorem m158_ok : MemOK (fun f => afs[f]?) 68 m158 := mem_run (m := m158) lk0_ok r158
theorem m159_ok : MemOK (fun f => afs[f]?) 68 m159 := mem_run (m := m159) lk0_ok r159
theorem m160_ok : MemOK (fun f => afs[f]?) 68 m160 := mem_run (m := m160) lk0_ok r160
theorem m161_ok : MemOK (fun f => afs[f]?) 68 m161 := mem_run (m := m161) lk0_ok r161
theorem m162_ok : MemOK (fun f => afs[f]?) 68 m162 := mem_run (m := m162) lk0_ok r162
theorem m163_ok : MemOK (fun f => afs[f]?) 68 m163 := mem_run (m := m163) lk0_ok r163
theorem m164_ok : MemOK (fun f => afs[f]?) 68 m164 := mem_run (m := m164) lk0_ok r164
theorem m165_ok : MemOK (fun f => afs[f]?) 68 m165 := mem_run (m := m165) lk0_ok r165
theorem m166_ok : MemOK (fun f => afs[f]?) 68 m166 := mem_run (m := m166) lk0_ok r166
theorem m167_ok : MemOK (fun f => afs[f]?) 68 m167 := mem_run (m := m167) lk0_ok r167
theorem m168_ok : MemOK (fun f => afs[f]?) 68 m168 := mem_run (m := m168) lk0_ok r168
theorem m169_ok : MemOK (fun f => afs[f]?) 53 m169 := mem_run (m := m169) lk0_ok r169
theorem m170_ok : MemOK (fun f => afs[f]?) 31 m170 := mem_run (m := m170) lk0_ok r170
theorem m171_ok : MemOK (fun f => afs[f]?) 53 m171 := mem_run (m := m171) lk0_ok r171
theorem m172_ok : MemOK (fun f => afs[f]?) 31 m172 := mem_run (m := m172) lk0_ok r172
theorem m173_ok : MemOK (fun f => afs[f]?) 31 m173 := mem_run (m := m173) lk0_ok r173
theorem m174_ok : MemOK (fun f => afs[f]?) 31 m174 := mem_run (m := m174) lk0_ok r174
theorem m175_ok : MemOK (fun f => afs[f]?) 26 m175 := mem_run (m := m175) lk0_ok r175
theorem m176_ok : MemOK (fun f => afs[f]?) 37 m176 := mem_run (m := m176) lk0_ok r176
theorem m177_ok : MemOK (fun f => afs[f]?) 68 m177 := mem_run (m := m177) lk0_ok r177
theorem m178_ok : MemOK (fun f => afs[f]?) 68 m178 := mem_run (m := m178) lk0_ok r178
theorem m179_ok : MemOK (fun f => afs[f]?) 68 m179 := mem_run (m := m179) lk0_ok r179
theorem m180_ok : MemOK (fun f => afs[f]?) 68 m180 := mem_run (m := m180) lk0_ok r180
theorem m181_ok : MemOK (fun f => afs[f]?) 68 m181 := mem_run (m := m181) lk0_ok r181
theorem m182_ok : MemOK (fun f => afs[f]?) 68 m182 := mem_run (m := m182) lk0_ok r182
theorem m183_ok : MemOK (fun f => afs[f]?) 68 m183 := mem_run (m := m183) lk0_ok r183
theorem m184_ok : MemOK (fun f => afs[f]?) 68 m184 := mem_run (m := m184) lk0_ok r184
theorem m185_ok : MemOK (fun f => afs[f]?) 68 m185 := mem_run (m := m185) lk0_ok r185
theorem m186_ok : MemOK (fun f => afs[f]?) 68 m186 := mem_run (m := m186) lk0_ok r186
theorem m187_ok : MemOK (fun f => afs[f]?) 68 m187 := mem_run (m := m187) lk0_ok r187
theorem lk1_ok : ∀ f, ZEok (fun f => afs[f]?) f (lk1 f) := (nats_cons (memZ_ok (f := 26) rfl (List.forall_mem_cons.2 ⟨m21_ok, (List.forall_mem_cons.2 ⟨m64_ok, (List.forall_mem_cons.2 ⟨m66_ok, (List.forall_mem_cons.2 ⟨m68_ok, (List.forall_mem_cons.2 ⟨m93_ok, (List.forall_mem_cons.2 ⟨m135_ok, (List.forall_mem_cons.2 ⟨m137_ok, (List.forall_mem_cons.2 ⟨m175_ok, (fun _ h => by cases h)⟩)⟩)⟩)⟩)⟩)⟩)⟩)⟩)) (nats_cons (memZ_ok (f := 31) rfl (List.forall_mem_cons.2 ⟨m15_ok, (List.forall_mem_cons.2 ⟨m17_ok, (List.forall_mem_cons.2 ⟨m19_ok, (List.forall_mem_cons.2 ⟨m59_ok, (List.forall_mem_cons.2 ⟨m61_ok, (List.forall_mem_cons.2 ⟨m62_ok, (List.forall_mem_cons.2 ⟨m90_ok, (List.forall_mem_cons.2 ⟨m91_ok, (List.forall_mem_cons.2 ⟨m125_ok, (List.forall_mem_cons.2 ⟨m127_ok, (List.forall_mem_cons.2 ⟨m129_ok, (List.forall_mem_cons.2 ⟨m131_ok, (List.forall_mem_cons.2 ⟨m133_ok, (List.forall_mem_cons.2 ⟨m170_ok, (List.forall_mem_cons.2 ⟨m172_ok, (List.forall_mem_cons.2 ⟨m173_ok, (List.forall_mem_cons.2 ⟨m174_ok, (fun _ h => by cases h)⟩)⟩)⟩)⟩)⟩)⟩)⟩)⟩)⟩)⟩)⟩)⟩)⟩)⟩)⟩)⟩)⟩)) (nats_cons (memZ_ok (f := 37) rfl (List.forall_mem_cons.2 ⟨m23_ok, (List.forall_mem_cons.2 ⟨m94_ok, (List.forall_mem_cons.2 ⟨m138_ok, (List.forall_mem_cons.2 ⟨m176_ok, (fun _ h => by cases h)⟩)⟩)⟩)⟩)) (nats_cons (memZ_ok (f := 53) rfl (List.forall_mem_cons.2 ⟨m7_ok, (List.forall_mem_cons.2 ⟨m9_ok, (List.forall_mem_cons.2 ⟨m14_ok, (List.forall_mem_cons.2 ⟨m16_ok, (List.forall_mem_cons.2 ⟨m18_ok, (List.forall_mem_cons.2 ⟨m20_ok, (List.forall_mem_cons.2 ⟨m22_ok, (List.forall_mem_cons.2 ⟨m52_ok, (List.forall_mem_cons.2 ⟨m58_ok, (List.forall_mem_cons.2 ⟨m60_ok, (List.forall_mem_cons.2 ⟨m63_ok, (List.forall_mem_cons.2 ⟨m65_ok, (List.forall_mem_cons.2 ⟨m67_ok, (List.forall_mem_cons.2 ⟨m92_ok, (List.forall_mem_cons.2 ⟨m110_ok, (List.forall_mem_cons.2 ⟨m115_ok, (List.forall_mem_cons.2 ⟨m118_ok, (List.forall_mem_cons.2 ⟨m124_ok, (List.forall_mem_cons.2 ⟨m126_ok, (List.forall_mem_cons.2 ⟨m128_ok, (List.forall_mem_cons.2 ⟨m130_ok, (List.forall_mem_cons.2 ⟨m132_ok, (List.forall_mem_cons.2 ⟨m134_ok, (List.forall_mem_cons.2 ⟨m136_ok, (List.forall_mem_cons.2 ⟨m169_ok, (List.forall_mem_cons.2 ⟨m171_ok, (fun _ h => by cases h)⟩)⟩)⟩)⟩)⟩)⟩)⟩)⟩)⟩)⟩)⟩)⟩)⟩)⟩)⟩)⟩)⟩)⟩)⟩)⟩)⟩)⟩)⟩)⟩)⟩)⟩)) (nats_cons (memZ_ok (f := 68) rfl (List.forall_mem_cons.2 ⟨m0_ok, (List.forall_mem_cons.2 ⟨m1_ok, (List.forall_mem_cons.2 ⟨m2_ok, (List.forall_mem_cons.2 ⟨m3_ok, (List.forall_mem_cons.2 ⟨m4_ok, (List.forall_mem_cons.2 ⟨m5_ok, (List.forall_mem_cons.2 ⟨m6_ok, (List.forall_mem_cons.2 ⟨m8_ok, (List.forall_mem_cons.2 ⟨m10_ok, (List.forall_mem_cons.2 ⟨m11_ok, (List.forall_mem_cons.2 ⟨m12_ok, (List.forall_mem_cons.2 ⟨m13_ok, (List.forall_mem_cons.2 ⟨m24_ok, (List.forall_mem_cons.2 ⟨m25_ok, (List.forall_mem_cons.2 ⟨m30_ok, (List.forall_mem_cons.2 ⟨m31_ok, (List.forall_mem_cons.2 ⟨m32_ok, (List.forall_mem_cons.2 ⟨m33_ok, (List.forall_mem_cons.2 ⟨m34_ok, (List.forall_mem_cons.2 ⟨m35_ok, (List.forall_mem_cons.2 ⟨m36_ok, (List.forall_mem_cons.2 ⟨m37_ok, (List.forall_mem_cons.2 ⟨m38_ok, (List.forall_mem_cons.2 ⟨m39_ok, (List.forall_mem_cons.2 ⟨m40_ok, (List.forall_mem_cons.2 ⟨m41_ok, (List.forall_mem_cons.2 ⟨m42_ok, (List.forall_mem_cons.2 ⟨m43_ok, (List.forall_mem_cons.2 ⟨m44_ok, (List.forall_mem_cons.2 ⟨m45_ok, (List.forall_mem_cons.2 ⟨m46_ok, (List.forall_mem_cons.2 ⟨m47_ok, (List.forall_mem_cons.2 ⟨m48_ok, (List.forall_mem_cons.2 ⟨m49_ok, (List.forall_mem_cons.2 ⟨m50_ok, (List.forall_mem_cons.2 ⟨m51_ok, (List.forall_mem_cons.2 ⟨m53_ok, (List.forall_mem_cons.2 ⟨m54_ok, (List.forall_mem_cons.2 ⟨m55_ok, (List.forall_mem_cons.2 ⟨m56_ok, (List.forall_mem_cons.2 ⟨m57_ok, (List.forall_mem_cons.2 ⟨m69_ok, (List.forall_mem_cons.2 ⟨m70_ok, (List.forall_mem_cons.2 ⟨m71_ok, (List.forall_mem_cons.2 ⟨m72_ok, (List.forall_mem_cons.2 ⟨m73_ok, (List.forall_mem_cons.2 ⟨m74_ok, (List.forall_mem_cons.2 ⟨m75_ok, (List.forall_mem_cons.2 ⟨m76_ok, (List.forall_mem_cons.2 ⟨m77_ok, (List.forall_mem_cons.2 ⟨m78_ok, (List.forall_mem_cons.2 ⟨m79_ok, (List.forall_mem_cons.2 ⟨m80_ok, (List.forall_mem_cons.2 ⟨m81_ok, (List.forall_mem_cons.2 ⟨m82_ok, (List.forall_mem_cons.2 ⟨m83_ok, (List.forall_mem_cons.2 ⟨m84_ok, (List.forall_mem_cons.2 ⟨m85_ok, (List.forall_mem_cons.2 ⟨m86_ok, (List.forall_mem_cons.2 ⟨m87_ok, (List.forall_mem_cons.2 ⟨m88_ok, (List.forall_mem_cons.2 ⟨m89_ok, (List.forall_mem_cons.2 ⟨m95_ok, (List.forall_mem_cons.2 ⟨m96_ok, (List.forall_mem_cons.2 ⟨m97_ok, (List.forall_mem_cons.2 ⟨m98_ok, (List.forall_mem_cons.2 ⟨m99_ok, (List.forall_mem_cons.2 ⟨m100_ok, (List.forall_mem_cons.2 ⟨m101_ok, (List.forall_mem_cons.2 ⟨m102_ok, (List.forall_mem_cons.2 ⟨m103_ok, (List.forall_mem_cons.2 ⟨m104_ok, (List.forall_mem_cons.2 ⟨m105_ok, (List.forall_mem_cons.2 ⟨m106_ok, (List.forall_mem_cons.2 ⟨m107_ok, (List.forall_mem_cons.2 ⟨m108_ok, (List.forall_mem_cons.2 ⟨m109_ok, (List.forall_mem_cons.2 ⟨m111_ok, (List.forall_mem_cons.2 ⟨m112_ok, (List.forall_mem_cons.2 ⟨m113_ok, (List.forall_mem_cons.2 ⟨m114_ok, (List.forall_mem_cons.2 ⟨m116_ok, (List.forall_mem_cons.2 ⟨m117_ok, (List.forall_mem_cons.2 ⟨m119_ok, (List.forall_mem_cons.2 ⟨m120_ok, (List.forall_mem_cons.2 ⟨m121_ok, (List.forall_mem_cons.2 ⟨m122_ok, (List.forall_mem_cons.2 ⟨m123_ok, (List.forall_mem_cons.2 ⟨m139_ok, (List.forall_mem_cons.2 ⟨m140_ok, (List.forall_mem_cons.2 ⟨m141_ok, (List.forall_mem_cons.2 ⟨m142_ok, (List.forall_mem_cons.2 ⟨m143_ok, (List.forall_mem_cons.2 ⟨m144_ok, (List.forall_mem_cons.2 ⟨m145_ok, (List.forall_mem_cons.2 ⟨m146_ok, (List.forall_mem_cons.2 ⟨m147_ok, (List.forall_mem_cons.2 ⟨m148_ok, (List.forall_mem_cons.2 ⟨m149_ok, (List.forall_mem_cons.2 ⟨m150_ok, (List.forall_mem_cons.2 ⟨m151_ok, (List.forall_mem_cons.2 ⟨m152_ok, (List.forall_mem_cons.2 ⟨m153_ok, (List.forall_mem_cons.2 ⟨m154_ok, (List.forall_mem_cons.2 ⟨m155_ok, (List.forall_mem_cons.2 ⟨m156_ok, (List.forall_mem_cons.2 ⟨m157_ok, (List.forall_mem_cons.2 ⟨m158_ok, (List.forall_mem_cons.2 ⟨m159_ok, (List.forall_mem_cons.2 ⟨m160_ok, (List.forall_mem_cons.2 ⟨m161_ok, (List.forall_mem_cons.2 ⟨m162_ok, (List.forall_mem_cons.2 ⟨m163_ok, (List.forall_mem_cons.2 ⟨m164_ok, (List.forall_mem_cons.2 ⟨m165_ok, (List.forall_mem_cons.2 ⟨m166_ok, (List.forall_mem_cons.2 ⟨m167_ok, (List.forall_mem_cons.2 ⟨m168_ok, (List.forall_mem_cons.2 ⟨m177_ok, (List.forall_mem_cons.2 ⟨m178_ok, (List.forall_mem_cons.2 ⟨m179_ok, (List.forall_mem_cons.2 ⟨m180_ok, (List.forall_mem_cons.2 ⟨m181_ok, (List.forall_mem_cons.2 ⟨m182_ok, (List.forall_mem_cons.2 ⟨m183_ok, (List.forall_mem_cons.2 ⟨m184_ok, (List.forall_mem_cons.2 ⟨m185_ok, (List.forall_mem_cons.2 ⟨m186_ok, (List.forall_mem_cons.2 ⟨m187_ok, (fun _ h => by cases h)⟩)⟩)⟩)⟩)⟩)⟩)⟩)⟩)⟩)⟩)⟩)⟩)⟩)⟩)⟩)⟩)⟩)⟩)⟩)⟩)⟩)⟩)⟩)⟩)⟩)⟩)⟩)⟩)⟩)⟩)⟩)⟩)⟩)⟩)⟩)⟩)⟩)⟩)⟩)⟩)⟩)⟩)⟩)⟩)⟩)⟩)⟩)⟩)⟩)⟩)⟩)⟩)⟩)⟩)⟩)⟩)⟩)⟩)⟩)⟩)⟩)⟩)⟩)⟩)⟩)⟩)⟩)⟩)⟩)⟩)⟩)⟩)⟩)⟩)⟩)⟩)⟩)⟩)⟩)⟩)⟩)⟩)⟩)⟩)⟩)⟩)⟩)⟩)⟩)⟩)⟩)⟩)⟩)⟩)⟩)⟩)⟩)⟩)⟩)⟩)⟩)⟩)⟩)⟩)⟩)⟩)⟩)⟩)⟩)⟩)⟩)⟩)⟩)⟩)⟩)⟩)⟩)⟩)⟩)⟩)⟩)⟩)⟩)⟩)⟩)⟩)⟩)⟩)⟩)) (nats_cons (memZ_ok (f := 93) rfl (List.forall_mem_cons.2 ⟨m26_ok, (List.forall_mem_cons.2 ⟨m27_ok, (List.forall_mem_cons.2 ⟨m28_ok, (List.forall_mem_cons.2 ⟨m29_ok, (fun _ h => by cases h)⟩)⟩)⟩)⟩)) (nats_nil look)))))))
theorem begunIs : evC (fun f => afs[f]?) 94 [] heap0 = some (.ret (.bool true) heap0) := by
  obtain ⟨H, h⟩ := tru_ret begunRun
  have h2 := runZ_ret lk1_ok (w := .nil) (H := ZH.none) trivial h
  have h3 := pure_ret (af := a94) rfl rfl h2
  rw [h3] at h2
  exact h2
theorem beg_ok : ZEok (fun f => afs[f]?) 94 onceZ := once_ok begunIs
theorem lkB_ok : ∀ f, ZEok (fun f => afs[f]?) f (lkB f) := (nats_cons beg_ok (nats_cons (memZ_ok (f := 26) rfl (List.forall_mem_cons.2 ⟨m21_ok, (List.forall_mem_cons.2 ⟨m64_ok, (List.forall_mem_cons.2 ⟨m66_ok, (List.forall_mem_cons.2 ⟨m68_ok, (List.forall_mem_cons.2 ⟨m93_ok, (List.forall_mem_cons.2 ⟨m135_ok, (List.forall_mem_cons.2 ⟨m137_ok, (List.forall_mem_cons.2 ⟨m175_ok, (fun _ h => by cases h)⟩)⟩)⟩)⟩)⟩)⟩)⟩)⟩)) (nats_cons (memZ_ok (f := 31) rfl (List.forall_mem_cons.2 ⟨m15_ok, (List.forall_mem_cons.2 ⟨m17_ok, (List.forall_mem_cons.2 ⟨m19_ok, (List.forall_mem_cons.2 ⟨m59_ok, (List.forall_mem_cons.2 ⟨m61_ok, (List.forall_mem_cons.2 ⟨m62_ok, (List.forall_mem_cons.2 ⟨m90_ok, (List.forall_mem_cons.2 ⟨m91_ok, (List.forall_mem_cons.2 ⟨m125_ok, (List.forall_mem_cons.2 ⟨m127_ok, (List.forall_mem_cons.2 ⟨m129_ok, (List.forall_mem_cons.2 ⟨m131_ok, (List.forall_mem_cons.2 ⟨m133_ok, (List.forall_mem_cons.2 ⟨m170_ok, (List.forall_mem_cons.2 ⟨m172_ok, (List.forall_mem_cons.2 ⟨m173_ok, (List.forall_mem_cons.2 ⟨m174_ok, (fun _ h => by cases h)⟩)⟩)⟩)⟩)⟩)⟩)⟩)⟩)⟩)⟩)⟩)⟩)⟩)⟩)⟩)⟩)⟩)) (nats_cons (memZ_ok (f := 37) rfl (List.forall_mem_cons.2 ⟨m23_ok, (List.forall_mem_cons.2 ⟨m94_ok, (List.forall_mem_cons.2 ⟨m138_ok, (List.forall_mem_cons.2 ⟨m176_ok, (fun _ h => by cases h)⟩)⟩)⟩)⟩)) (nats_cons (memZ_ok (f := 53) rfl (List.forall_mem_cons.2 ⟨m7_ok, (List.forall_mem_cons.2 ⟨m9_ok, (List.forall_mem_cons.2 ⟨m14_ok, (List.forall_mem_cons.2 ⟨m16_ok, (List.forall_mem_cons.2 ⟨m18_ok, (List.forall_mem_cons.2 ⟨m20_ok, (List.forall_mem_cons.2 ⟨m22_ok, (List.forall_mem_cons.2 ⟨m52_ok, (List.forall_mem_cons.2 ⟨m58_ok, (List.forall_mem_cons.2 ⟨m60_ok, (List.forall_mem_cons.2 ⟨m63_ok, (List.forall_mem_cons.2 ⟨m65_ok, (List.forall_mem_cons.2 ⟨m67_ok, (List.forall_mem_cons.2 ⟨m92_ok, (List.forall_mem_cons.2 ⟨m110_ok, (List.forall_mem_cons.2 ⟨m115_ok, (List.forall_mem_cons.2 ⟨m118_ok, (List.forall_mem_cons.2 ⟨m124_ok, (List.forall_mem_cons.2 ⟨m126_ok, (List.forall_mem_cons.2 ⟨m128_ok, (List.forall_mem_cons.2 ⟨m130_ok, (List.forall_mem_cons.2 ⟨m132_ok, (List.forall_mem_cons.2 ⟨m134_ok, (List.forall_mem_cons.2 ⟨m136_ok, (List.forall_mem_cons.2 ⟨m169_ok, (List.forall_mem_cons.2 ⟨m171_ok, (fun _ h => by cases h)⟩)⟩)⟩)⟩)⟩)⟩)⟩)⟩)⟩)⟩)⟩)⟩)⟩)⟩)⟩)⟩)⟩)⟩)⟩)⟩)⟩)⟩)⟩)⟩)⟩)⟩)) (nats_cons (memZ_ok (f := 68) rfl (List.forall_mem_cons.2 ⟨m0_ok, (List.forall_mem_cons.2 ⟨m1_ok, (List.forall_mem_cons.2 ⟨m2_ok, (List.forall_mem_cons.2 ⟨m3_ok, (List.forall_mem_cons.2 ⟨m4_ok, (List.forall_mem_cons.2 ⟨m5_ok, (List.forall_mem_cons.2 ⟨m6_ok, (List.forall_mem_cons.2 ⟨m8_ok, (List.forall_mem_cons.2 ⟨m10_ok, (List.forall_mem_cons.2 ⟨m11_ok, (List.forall_mem_cons.2 ⟨m12_ok, (List.forall_mem_cons.2 ⟨m13_ok, (List.forall_mem_cons.2 ⟨m24_ok, (List.forall_mem_cons.2 ⟨m25_ok, (List.forall_mem_cons.2 ⟨m30_ok, (List.forall_mem_cons.2 ⟨m31_ok, (List.forall_mem_cons.2 ⟨m32_ok, (List.forall_mem_cons.2 ⟨m33_ok, (List.forall_mem_cons.2 ⟨m34_ok, (List.forall_mem_cons.2 ⟨m35_ok, (List.forall_mem_cons.2 ⟨m36_ok, (List.forall_mem_cons.2 ⟨m37_ok, (List.forall_mem_cons.2 ⟨m38_ok, (List.forall_mem_cons.2 ⟨m39_ok, (List.forall_mem_cons.2 ⟨m40_ok, (List.forall_mem_cons.2 ⟨m41_ok, (List.forall_mem_cons.2 ⟨m42_ok, (List.forall_mem_cons.2 ⟨m43_ok, (List.forall_mem_cons.2 ⟨m44_ok, (List.forall_mem_cons.2 ⟨m45_ok, (List.forall_mem_cons.2 ⟨m46_ok, (List.forall_mem_cons.2 ⟨m47_ok, (List.forall_mem_cons.2 ⟨m48_ok, (List.forall_mem_cons.2 ⟨m49_ok, (List.forall_mem_cons.2 ⟨m50_ok, (List.forall_mem_cons.2 ⟨m51_ok, (List.forall_mem_cons.2 ⟨m53_ok, (List.forall_mem_cons.2 ⟨m54_ok, (List.forall_mem_cons.2 ⟨m55_ok, (List.forall_mem_cons.2 ⟨m56_ok, (List.forall_mem_cons.2 ⟨m57_ok, (List.forall_mem_cons.2 ⟨m69_ok, (List.forall_mem_cons.2 ⟨m70_ok, (List.forall_mem_cons.2 ⟨m71_ok, (List.forall_mem_cons.2 ⟨m72_ok, (List.forall_mem_cons.2 ⟨m73_ok, (List.forall_mem_cons.2 ⟨m74_ok, (List.forall_mem_cons.2 ⟨m75_ok, (List.forall_mem_cons.2 ⟨m76_ok, (List.forall_mem_cons.2 ⟨m77_ok, (List.forall_mem_cons.2 ⟨m78_ok, (List.forall_mem_cons.2 ⟨m79_ok, (List.forall_mem_cons.2 ⟨m80_ok, (List.forall_mem_cons.2 ⟨m81_ok, (List.forall_mem_cons.2 ⟨m82_ok, (List.forall_mem_cons.2 ⟨m83_ok, (List.forall_mem_cons.2 ⟨m84_ok, (List.forall_mem_cons.2 ⟨m85_ok, (List.forall_mem_cons.2 ⟨m86_ok, (List.forall_mem_cons.2 ⟨m87_ok, (List.forall_mem_cons.2 ⟨m88_ok, (List.forall_mem_cons.2 ⟨m89_ok, (List.forall_mem_cons.2 ⟨m95_ok, (List.forall_mem_cons.2 ⟨m96_ok, (List.forall_mem_cons.2 ⟨m97_ok, (List.forall_mem_cons.2 ⟨m98_ok, (List.forall_mem_cons.2 ⟨m99_ok, (List.forall_mem_cons.2 ⟨m100_ok, (List.forall_mem_cons.2 ⟨m101_ok, (List.forall_mem_cons.2 ⟨m102_ok, (List.forall_mem_cons.2 ⟨m103_ok, (List.forall_mem_cons.2 ⟨m104_ok, (List.forall_mem_cons.2 ⟨m105_ok, (List.forall_mem_cons.2 ⟨m106_ok, (List.forall_mem_cons.2 ⟨m107_ok, (List.forall_mem_cons.2 ⟨m108_ok, (List.forall_mem_cons.2 ⟨m109_ok, (List.forall_mem_cons.2 ⟨m111_ok, (List.forall_mem_cons.2 ⟨m112_ok, (List.forall_mem_cons.2 ⟨m113_ok, (List.forall_mem_cons.2 ⟨m114_ok, (List.forall_mem_cons.2 ⟨m116_ok, (List.forall_mem_cons.2 ⟨m117_ok, (List.forall_mem_cons.2 ⟨m119_ok, (List.forall_mem_cons.2 ⟨m120_ok, (List.forall_mem_cons.2 ⟨m121_ok, (List.forall_mem_cons.2 ⟨m122_ok, (List.forall_mem_cons.2 ⟨m123_ok, (List.forall_mem_cons.2 ⟨m139_ok, (List.forall_mem_cons.2 ⟨m140_ok, (List.forall_mem_cons.2 ⟨m141_ok, (List.forall_mem_cons.2 ⟨m142_ok, (List.forall_mem_cons.2 ⟨m143_ok, (List.forall_mem_cons.2 ⟨m144_ok, (List.forall_mem_cons.2 ⟨m145_ok, (List.forall_mem_cons.2 ⟨m146_ok, (List.forall_mem_cons.2 ⟨m147_ok, (List.forall_mem_cons.2 ⟨m148_ok, (List.forall_mem_cons.2 ⟨m149_ok, (List.forall_mem_cons.2 ⟨m150_ok, (List.forall_mem_cons.2 ⟨m151_ok, (List.forall_mem_cons.2 ⟨m152_ok, (List.forall_mem_cons.2 ⟨m153_ok, (List.forall_mem_cons.2 ⟨m154_ok, (List.forall_mem_cons.2 ⟨m155_ok, (List.forall_mem_cons.2 ⟨m156_ok, (List.forall_mem_cons.2 ⟨m157_ok, (List.forall_mem_cons.2 ⟨m158_ok, (List.forall_mem_cons.2 ⟨m159_ok, (List.forall_mem_cons.2 ⟨m160_ok, (List.forall_mem_cons.2 ⟨m161_ok, (List.forall_mem_cons.2 ⟨m162_ok, (List.forall_mem_cons.2 ⟨m163_ok, (List.forall_mem_cons.2 ⟨m164_ok, (List.forall_mem_cons.2 ⟨m165_ok, (List.forall_mem_cons.2 ⟨m166_ok, (List.forall_mem_cons.2 ⟨m167_ok, (List.forall_mem_cons.2 ⟨m168_ok, (List.forall_mem_cons.2 ⟨m177_ok, (List.forall_mem_cons.2 ⟨m178_ok, (List.forall_mem_cons.2 ⟨m179_ok, (List.forall_mem_cons.2 ⟨m180_ok, (List.forall_mem_cons.2 ⟨m181_ok, (List.forall_mem_cons.2 ⟨m182_ok, (List.forall_mem_cons.2 ⟨m183_ok, (List.forall_mem_cons.2 ⟨m184_ok, (List.forall_mem_cons.2 ⟨m185_ok, (List.forall_mem_cons.2 ⟨m186_ok, (List.forall_mem_cons.2 ⟨m187_ok, (fun _ h => by cases h)⟩)⟩)⟩)⟩)⟩)⟩)⟩)⟩)⟩)⟩)⟩)⟩)⟩)⟩)⟩)⟩)⟩)⟩)⟩)⟩)⟩)⟩)⟩)⟩)⟩)⟩)⟩)⟩)⟩)⟩)⟩)⟩)⟩)⟩)⟩)⟩)⟩)⟩)⟩)⟩)⟩)⟩)⟩)⟩)⟩)⟩)⟩)⟩)⟩)⟩)⟩)⟩)⟩)⟩)⟩)⟩)⟩)⟩)⟩)⟩)⟩)⟩)⟩)⟩)⟩)⟩)⟩)⟩)⟩)⟩)⟩)⟩)⟩)⟩)⟩)⟩)⟩)⟩)⟩)⟩)⟩)⟩)⟩)⟩)⟩)⟩)⟩)⟩)⟩)⟩)⟩)⟩)⟩)⟩)⟩)⟩)⟩)⟩)⟩)⟩)⟩)⟩)⟩)⟩)⟩)⟩)⟩)⟩)⟩)⟩)⟩)⟩)⟩)⟩)⟩)⟩)⟩)⟩)⟩)⟩)⟩)⟩)⟩)⟩)⟩)⟩)⟩)⟩)⟩)) (nats_cons (memZ_ok (f := 93) rfl (List.forall_mem_cons.2 ⟨m26_ok, (List.forall_mem_cons.2 ⟨m27_ok, (List.forall_mem_cons.2 ⟨m28_ok, (List.forall_mem_cons.2 ⟨m29_ok, (fun _ h => by cases h)⟩)⟩)⟩)⟩)) (nats_nil look))))))))
theorem cg46 (a : Nat) (ha : a < 9223372036854775808) (kind : IntKind) (H : Heap) (v : AV) (H' : Heap) (h : evC (fun f => afs[f]?) 46 [.int kind ((a % 5 : Nat) : Int)] H = some (.ret v H')) : evC (fun f => afs[f]?) 46 [.int kind (a : Int)] H = some (.ret v H') :=
  evC_cg (D := [0, 6, 7]) (M := [5]) (F := []) ⟨⟨wrap_small (by omega), wrap_small (by omega)⟩, fun m hm => by simp only [List.mem_singleton] at hm; subst hm; exact ⟨by decide, tmod_cast a 5⟩, fun f hf => by cases hf⟩ (af := a46) rfl (by kernel_rfl) (by kernel_rfl) (p := 0) (k := kind) rfl rfl (fun s hs => by simp at hs; simp only [List.length_cons, List.length_nil]; omega) h
theorem run0 (n : Nat) (hn : n < 10) : (fun b : Nat => allN (fun c => tru (callZ lkB 100000 100 (.one (.u 0 0) (.one (.u 0 b) (.one (.u 0 c) .nil))) ZH.none)) 4) n = true := by
  match n, hn with
  | 0, _ => exact run0_0
  | 1, _ => exact run0_1
  | 2, _ => exact run0_2
  | 3, _ => exact run0_3
  | 4, _ => exact run0_4
  | 5, _ => exact run0_5
  | 6, _ => exact run0_6
  | 7, _ => exact run0_7
  | 8, _ => exact run0_8
  | 9, _ => exact run0_9
  | n + 10, h => exact absurd h (by omega)
theorem all0 (a b c : Nat) (ha : a < 256) (hb : b < 256) (hc : c < 256) (ea : a % 5 = 0)  : ∃ H', evC (fun f => afs[f]?) 100 [.int .u8 (a : Int), .int .u8 (b : Int), .int .u8 (c : Int)] heap0 = some (.ret (.bool true) H') := by
  have rb := run0 (b % 10) (Nat.mod_lt _ (by decide))
  have rc := allN_ok (rb) (c % 4) (Nat.mod_lt _ (by decide))
  obtain ⟨Hr, h0⟩ := tru_ret (rc)
  have h0 := runZ_ret lkB_ok (w := .one (.u 0 0) (.one (.u 0 (b % 10)) (.one (.u 0 (c % 4)) .nil))) (H := ZH.none) trivial h0
  have g0 : evC (fun f => afs[f]?) 100 [.int .u8 ((0 : Nat) : Int), .int .u8 ((b % 10 : Nat) : Int), .int .u8 ((c % 4 : Nat) : Int)] heap0 = some (.ret (.bool true) Hr.heap) := h0
  have g0 : evC (fun f => afs[f]?) 100 [.int .u8 ((a % 5 : Nat) : Int), .int .u8 ((b % 10 : Nat) : Int), .int .u8 ((c % 4 : Nat) : Int)] heap0 = some (.ret (.bool true) Hr.heap) := by rw [ea]; exact g0
  have g1 : evC (fun f => afs[f]?) 100 [.int .u8 (a : Int), .int .u8 ((b % 10 : Nat) : Int), .int .u8 ((c % 4 : Nat) : Int)] heap0 = some (.ret (.bool true) Hr.heap) := evC_cg (D := [0, 29]) (M := []) (F := [46]) (vs := [.int .u8 ((a % 5 : Nat) : Int), .int .u8 ((b % 10 : Nat) : Int), .int .u8 ((c % 4 : Nat) : Int)]) ⟨⟨wrap_small (by omega), wrap_small (by omega)⟩, (fun m hm => by cases hm), fun f hf => by simp only [List.mem_singleton] at hf; subst hf; exact cg46 a (by omega)⟩ (af := a100) rfl (by kernel_rfl) (by kernel_rfl) (p := 0) (k := .u8) (b := (a : Int)) rfl rfl (fun s hs => by simp at hs; simp only [List.length_cons, List.length_nil]; omega) g0
  have g2 : evC (fun f => afs[f]?) 100 [.int .u8 (a : Int), .int .u8 (b : Int), .int .u8 ((c % 4 : Nat) : Int)] heap0 = some (.ret (.bool true) Hr.heap) := evC_cg (D := [1, 51, 52]) (M := [10]) (F := []) (vs := [.int .u8 (a : Int), .int .u8 ((b % 10 : Nat) : Int), .int .u8 ((c % 4 : Nat) : Int)]) ⟨⟨wrap_small (by omega), wrap_small (by omega)⟩, fun m hm => by simp only [List.mem_singleton] at hm; subst hm; exact ⟨by decide, tmod_cast b 10⟩, (fun f hf => by cases hf)⟩ (af := a100) rfl (by kernel_rfl) (by kernel_rfl) (p := 1) (k := .u8) (b := (b : Int)) rfl rfl (fun s hs => by simp at hs; simp only [List.length_cons, List.length_nil]; omega) g1
  have g3 : evC (fun f => afs[f]?) 100 [.int .u8 (a : Int), .int .u8 (b : Int), .int .u8 (c : Int)] heap0 = some (.ret (.bool true) Hr.heap) := evC_cg (D := [2, 80]) (M := [4]) (F := []) (vs := [.int .u8 (a : Int), .int .u8 (b : Int), .int .u8 ((c % 4 : Nat) : Int)]) ⟨⟨wrap_small (by omega), wrap_small (by omega)⟩, fun m hm => by simp only [List.mem_singleton] at hm; subst hm; exact ⟨by decide, tmod_cast c 4⟩, (fun f hf => by cases hf)⟩ (af := a100) rfl (by kernel_rfl) (by kernel_rfl) (p := 2) (k := .u8) (b := (c : Int)) rfl rfl (fun s hs => by simp at hs; simp only [List.length_cons, List.length_nil]; omega) g2
  exact ⟨_, g3⟩
theorem run1 (n : Nat) (hn : n < 12) : (fun b : Nat => allN (fun c => tru (callZ lkB 100000 101 (.one (.u 0 1) (.one (.u 0 b) (.one (.u 0 c) .nil))) ZH.none)) 4) n = true := by
  match n, hn with
  | 0, _ => exact run1_0
  | 1, _ => exact run1_1
  | 2, _ => exact run1_2
  | 3, _ => exact run1_3
  | 4, _ => exact run1_4
  | 5, _ => exact run1_5
  | 6, _ => exact run1_6
  | 7, _ => exact run1_7
  | 8, _ => exact run1_8
  | 9, _ => exact run1_9
  | 10, _ => exact run1_10
  | 11, _ => exact run1_11
  | n + 12, h => exact absurd h (by omega)
theorem all1 (a b c : Nat) (ha : a < 256) (hb : b < 256) (hc : c < 256) (ea : a % 5 = 1)  : ∃ H', evC (fun f => afs[f]?) 101 [.int .u8 (a : Int), .int .u8 (b : Int), .int .u8 (c : Int)] heap0 = some (.ret (.bool true) H') := by
  have rb := run1 (b % 12) (Nat.mod_lt _ (by decide))
  have rc := allN_ok (rb) (c % 4) (Nat.mod_lt _ (by decide))
  obtain ⟨Hr, h0⟩ := tru_ret (rc)
  have h0 := runZ_ret lkB_ok (w := .one (.u 0 1) (.one (.u 0 (b % 12)) (.one (.u 0 (c % 4)) .nil))) (H := ZH.none) trivial h0
  have g0 : evC (fun f => afs[f]?) 101 [.int .u8 ((1 : Nat) : Int), .int .u8 ((b % 12 : Nat) : Int), .int .u8 ((c % 4 : Nat) : Int)] heap0 = some (.ret (.bool true) Hr.heap) := h0
  have g0 : evC (fun f => afs[f]?) 101 [.int .u8 ((a % 5 : Nat) : Int), .int .u8 ((b % 12 : Nat) : Int), .int .u8 ((c % 4 : Nat) : Int)] heap0 = some (.ret (.bool true) Hr.heap) := by rw [ea]; exact g0
  have g1 : evC (fun f => afs[f]?) 101 [.int .u8 (a : Int), .int .u8 ((b % 12 : Nat) : Int), .int .u8 ((c % 4 : Nat) : Int)] heap0 = some (.ret (.bool true) Hr.heap) := evC_cg (D := [0, 29]) (M := []) (F := [46]) (vs := [.int .u8 ((a % 5 : Nat) : Int), .int .u8 ((b % 12 : Nat) : Int), .int .u8 ((c % 4 : Nat) : Int)]) ⟨⟨wrap_small (by omega), wrap_small (by omega)⟩, (fun m hm => by cases hm), fun f hf => by simp only [List.mem_singleton] at hf; subst hf; exact cg46 a (by omega)⟩ (af := a101) rfl (by kernel_rfl) (by kernel_rfl) (p := 0) (k := .u8) (b := (a : Int)) rfl rfl (fun s hs => by simp at hs; simp only [List.length_cons, List.length_nil]; omega) g0
  have g2 : evC (fun f => afs[f]?) 101 [.int .u8 (a : Int), .int .u8 (b : Int), .int .u8 ((c % 4 : Nat) : Int)] heap0 = some (.ret (.bool true) Hr.heap) := evC_cg (D := [1, 51, 52]) (M := [12]) (F := []) (vs := [.int .u8 (a : Int), .int .u8 ((b % 12 : Nat) : Int), .int .u8 ((c % 4 : Nat) : Int)]) ⟨⟨wrap_small (by omega), wrap_small (by omega)⟩, fun m hm => by simp only [List.mem_singleton] at hm; subst hm; exact ⟨by decide, tmod_cast b 12⟩, (fun f hf => by cases hf)⟩ (af := a101) rfl (by kernel_rfl) (by kernel_rfl) (p := 1) (k := .u8) (b := (b : Int)) rfl rfl (fun s hs => by simp at hs; simp only [List.length_cons, List.length_nil]; omega) g1
  have g3 : evC (fun f => afs[f]?) 101 [.int .u8 (a : Int), .int .u8 (b : Int), .int .u8 (c : Int)] heap0 = some (.ret (.bool true) Hr.heap) := evC_cg (D := [2, 80]) (M := [4]) (F := []) (vs := [.int .u8 (a : Int), .int .u8 (b : Int), .int .u8 ((c % 4 : Nat) : Int)]) ⟨⟨wrap_small (by omega), wrap_small (by omega)⟩, fun m hm => by simp only [List.mem_singleton] at hm; subst hm; exact ⟨by decide, tmod_cast c 4⟩, (fun f hf => by cases hf)⟩ (af := a101) rfl (by kernel_rfl) (by kernel_rfl) (p := 2) (k := .u8) (b := (c : Int)) rfl rfl (fun s hs => by simp at hs; simp only [List.length_cons, List.length_nil]; omega) g2
  exact ⟨_, g3⟩
theorem run2 (n : Nat) (hn : n < 7) : (fun b : Nat => allN (fun c => tru (callZ lkB 100000 102 (.one (.u 0 2) (.one (.u 0 b) (.one (.u 0 c) .nil))) ZH.none)) 4) n = true := by
  match n, hn with
  | 0, _ => exact run2_0
  | 1, _ => exact run2_1
  | 2, _ => exact run2_2
  | 3, _ => exact run2_3
  | 4, _ => exact run2_4
  | 5, _ => exact run2_5
  | 6, _ => exact run2_6
  | n + 7, h => exact absurd h (by omega)
theorem all2 (a b c : Nat) (ha : a < 256) (hb : b < 256) (hc : c < 256) (ea : a % 5 = 2)  : ∃ H', evC (fun f => afs[f]?) 102 [.int .u8 (a : Int), .int .u8 (b : Int), .int .u8 (c : Int)] heap0 = some (.ret (.bool true) H') := by
  have rb := run2 (b % 7) (Nat.mod_lt _ (by decide))
  have rc := allN_ok (rb) (c % 4) (Nat.mod_lt _ (by decide))
  obtain ⟨Hr, h0⟩ := tru_ret (rc)
  have h0 := runZ_ret lkB_ok (w := .one (.u 0 2) (.one (.u 0 (b % 7)) (.one (.u 0 (c % 4)) .nil))) (H := ZH.none) trivial h0
  have g0 : evC (fun f => afs[f]?) 102 [.int .u8 ((2 : Nat) : Int), .int .u8 ((b % 7 : Nat) : Int), .int .u8 ((c % 4 : Nat) : Int)] heap0 = some (.ret (.bool true) Hr.heap) := h0
  have g0 : evC (fun f => afs[f]?) 102 [.int .u8 ((a % 5 : Nat) : Int), .int .u8 ((b % 7 : Nat) : Int), .int .u8 ((c % 4 : Nat) : Int)] heap0 = some (.ret (.bool true) Hr.heap) := by rw [ea]; exact g0
  have g1 : evC (fun f => afs[f]?) 102 [.int .u8 (a : Int), .int .u8 ((b % 7 : Nat) : Int), .int .u8 ((c % 4 : Nat) : Int)] heap0 = some (.ret (.bool true) Hr.heap) := evC_cg (D := [0, 29]) (M := []) (F := [46]) (vs := [.int .u8 ((a % 5 : Nat) : Int), .int .u8 ((b % 7 : Nat) : Int), .int .u8 ((c % 4 : Nat) : Int)]) ⟨⟨wrap_small (by omega), wrap_small (by omega)⟩, (fun m hm => by cases hm), fun f hf => by simp only [List.mem_singleton] at hf; subst hf; exact cg46 a (by omega)⟩ (af := a102) rfl (by kernel_rfl) (by kernel_rfl) (p := 0) (k := .u8) (b := (a : Int)) rfl rfl (fun s hs => by simp at hs; simp only [List.length_cons, List.length_nil]; omega) g0
  have g2 : evC (fun f => afs[f]?) 102 [.int .u8 (a : Int), .int .u8 (b : Int), .int .u8 ((c % 4 : Nat) : Int)] heap0 = some (.ret (.bool true) Hr.heap) := evC_cg (D := [1, 51, 52]) (M := [7]) (F := []) (vs := [.int .u8 (a : Int), .int .u8 ((b % 7 : Nat) : Int), .int .u8 ((c % 4 : Nat) : Int)]) ⟨⟨wrap_small (by omega), wrap_small (by omega)⟩, fun m hm => by simp only [List.mem_singleton] at hm; subst hm; exact ⟨by decide, tmod_cast b 7⟩, (fun f hf => by cases hf)⟩ (af := a102) rfl (by kernel_rfl) (by kernel_rfl) (p := 1) (k := .u8) (b := (b : Int)) rfl rfl (fun s hs => by simp at hs; simp only [List.length_cons, List.length_nil]; omega) g1
  have g3 : evC (fun f => afs[f]?) 102 [.int .u8 (a : Int), .int .u8 (b : Int), .int .u8 (c : Int)] heap0 = some (.ret (.bool true) Hr.heap) := evC_cg (D := [2, 80]) (M := [4]) (F := []) (vs := [.int .u8 (a : Int), .int .u8 (b : Int), .int .u8 ((c % 4 : Nat) : Int)]) ⟨⟨wrap_small (by omega), wrap_small (by omega)⟩, fun m hm => by simp only [List.mem_singleton] at hm; subst hm; exact ⟨by decide, tmod_cast c 4⟩, (fun f hf => by cases hf)⟩ (af := a102) rfl (by kernel_rfl) (by kernel_rfl) (p := 2) (k := .u8) (b := (c : Int)) rfl rfl (fun s hs => by simp at hs; simp only [List.length_cons, List.length_nil]; omega) g2
  exact ⟨_, g3⟩
theorem run3 (n : Nat) (hn : n < 18) : (fun b : Nat => allN (fun c => tru (callZ lkB 100000 103 (.one (.u 0 3) (.one (.u 0 b) (.one (.u 0 c) .nil))) ZH.none)) 4) n = true := by
  match n, hn with
  | 0, _ => exact run3_0
  | 1, _ => exact run3_1
  | 2, _ => exact run3_2
  | 3, _ => exact run3_3
  | 4, _ => exact run3_4
  | 5, _ => exact run3_5
  | 6, _ => exact run3_6
  | 7, _ => exact run3_7
  | 8, _ => exact run3_8
  | 9, _ => exact run3_9
  | 10, _ => exact run3_10
  | 11, _ => exact run3_11
  | 12, _ => exact run3_12
  | 13, _ => exact run3_13
  | 14, _ => exact run3_14
  | 15, _ => exact run3_15
  | 16, _ => exact run3_16
  | 17, _ => exact run3_17
  | n + 18, h => exact absurd h (by omega)
theorem all3 (a b c : Nat) (ha : a < 256) (hb : b < 256) (hc : c < 256) (ea : a % 5 = 3)  : ∃ H', evC (fun f => afs[f]?) 103 [.int .u8 (a : Int), .int .u8 (b : Int), .int .u8 (c : Int)] heap0 = some (.ret (.bool true) H') := by
  have rb := run3 (b % 18) (Nat.mod_lt _ (by decide))
  have rc := allN_ok (rb) (c % 4) (Nat.mod_lt _ (by decide))
  obtain ⟨Hr, h0⟩ := tru_ret (rc)
  have h0 := runZ_ret lkB_ok (w := .one (.u 0 3) (.one (.u 0 (b % 18)) (.one (.u 0 (c % 4)) .nil))) (H := ZH.none) trivial h0
  have g0 : evC (fun f => afs[f]?) 103 [.int .u8 ((3 : Nat) : Int), .int .u8 ((b % 18 : Nat) : Int), .int .u8 ((c % 4 : Nat) : Int)] heap0 = some (.ret (.bool true) Hr.heap) := h0
  have g0 : evC (fun f => afs[f]?) 103 [.int .u8 ((a % 5 : Nat) : Int), .int .u8 ((b % 18 : Nat) : Int), .int .u8 ((c % 4 : Nat) : Int)] heap0 = some (.ret (.bool true) Hr.heap) := by rw [ea]; exact g0
  have g1 : evC (fun f => afs[f]?) 103 [.int .u8 (a : Int), .int .u8 ((b % 18 : Nat) : Int), .int .u8 ((c % 4 : Nat) : Int)] heap0 = some (.ret (.bool true) Hr.heap) := evC_cg (D := [0, 29]) (M := []) (F := [46]) (vs := [.int .u8 ((a % 5 : Nat) : Int), .int .u8 ((b % 18 : Nat) : Int), .int .u8 ((c % 4 : Nat) : Int)]) ⟨⟨wrap_small (by omega), wrap_small (by omega)⟩, (fun m hm => by cases hm), fun f hf => by simp only [List.mem_singleton] at hf; subst hf; exact cg46 a (by omega)⟩ (af := a103) rfl (by kernel_rfl) (by kernel_rfl) (p := 0) (k := .u8) (b := (a : Int)) rfl rfl (fun s hs => by simp at hs; simp only [List.length_cons, List.length_nil]; omega) g0
  have g2 : evC (fun f => afs[f]?) 103 [.int .u8 (a : Int), .int .u8 (b : Int), .int .u8 ((c % 4 : Nat) : Int)] heap0 = some (.ret (.bool true) Hr.heap) := evC_cg (D := [1, 51, 52]) (M := [18]) (F := []) (vs := [.int .u8 (a : Int), .int .u8 ((b % 18 : Nat) : Int), .int .u8 ((c % 4 : Nat) : Int)]) ⟨⟨wrap_small (by omega), wrap_small (by omega)⟩, fun m hm => by simp only [List.mem_singleton] at hm; subst hm; exact ⟨by decide, tmod_cast b 18⟩, (fun f hf => by cases hf)⟩ (af := a103) rfl (by kernel_rfl) (by kernel_rfl) (p := 1) (k := .u8) (b := (b : Int)) rfl rfl (fun s hs => by simp at hs; simp only [List.length_cons, List.length_nil]; omega) g1
  have g3 : evC (fun f => afs[f]?) 103 [.int .u8 (a : Int), .int .u8 (b : Int), .int .u8 (c : Int)] heap0 = some (.ret (.bool true) Hr.heap) := evC_cg (D := [2, 80]) (M := [4]) (F := []) (vs := [.int .u8 (a : Int), .int .u8 (b : Int), .int .u8 ((c % 4 : Nat) : Int)]) ⟨⟨wrap_small (by omega), wrap_small (by omega)⟩, fun m hm => by simp only [List.mem_singleton] at hm; subst hm; exact ⟨by decide, tmod_cast c 4⟩, (fun f hf => by cases hf)⟩ (af := a103) rfl (by kernel_rfl) (by kernel_rfl) (p := 2) (k := .u8) (b := (c : Int)) rfl rfl (fun s hs => by simp at hs; simp only [List.length_cons, List.length_nil]; omega) g2
  exact ⟨_, g3⟩
theorem run4 (n : Nat) (hn : n < 11) : (fun b : Nat => allN (fun c => tru (callZ lkB 100000 104 (.one (.u 0 4) (.one (.u 0 b) (.one (.u 0 c) .nil))) ZH.none)) 4) n = true := by
  match n, hn with
  | 0, _ => exact run4_0
  | 1, _ => exact run4_1
  | 2, _ => exact run4_2
  | 3, _ => exact run4_3
  | 4, _ => exact run4_4
  | 5, _ => exact run4_5
  | 6, _ => exact run4_6
  | 7, _ => exact run4_7
  | 8, _ => exact run4_8
  | 9, _ => exact run4_9
  | 10, _ => exact run4_10
  | n + 11, h => exact absurd h (by omega)
theorem all4 (a b c : Nat) (ha : a < 256) (hb : b < 256) (hc : c < 256) (ea : a % 5 = 4)  : ∃ H', evC (fun f => afs[f]?) 104 [.int .u8 (a : Int), .int .u8 (b : Int), .int .u8 (c : Int)] heap0 = some (.ret (.bool true) H') := by
  have rb := run4 (b % 11) (Nat.mod_lt _ (by decide))
  have rc := allN_ok (rb) (c % 4) (Nat.mod_lt _ (by decide))
  obtain ⟨Hr, h0⟩ := tru_ret (rc)
  have h0 := runZ_ret lkB_ok (w := .one (.u 0 4) (.one (.u 0 (b % 11)) (.one (.u 0 (c % 4)) .nil))) (H := ZH.none) trivial h0
  have g0 : evC (fun f => afs[f]?) 104 [.int .u8 ((4 : Nat) : Int), .int .u8 ((b % 11 : Nat) : Int), .int .u8 ((c % 4 : Nat) : Int)] heap0 = some (.ret (.bool true) Hr.heap) := h0
  have g0 : evC (fun f => afs[f]?) 104 [.int .u8 ((a % 5 : Nat) : Int), .int .u8 ((b % 11 : Nat) : Int), .int .u8 ((c % 4 : Nat) : Int)] heap0 = some (.ret (.bool true) Hr.heap) := by rw [ea]; exact g0
  have g1 : evC (fun f => afs[f]?) 104 [.int .u8 (a : Int), .int .u8 ((b % 11 : Nat) : Int), .int .u8 ((c % 4 : Nat) : Int)] heap0 = some (.ret (.bool true) Hr.heap) := evC_cg (D := [0, 29]) (M := []) (F := [46]) (vs := [.int .u8 ((a % 5 : Nat) : Int), .int .u8 ((b % 11 : Nat) : Int), .int .u8 ((c % 4 : Nat) : Int)]) ⟨⟨wrap_small (by omega), wrap_small (by omega)⟩, (fun m hm => by cases hm), fun f hf => by simp only [List.mem_singleton] at hf; subst hf; exact cg46 a (by omega)⟩ (af := a104) rfl (by kernel_rfl) (by kernel_rfl) (p := 0) (k := .u8) (b := (a : Int)) rfl rfl (fun s hs => by simp at hs; simp only [List.length_cons, List.length_nil]; omega) g0
  have g2 : evC (fun f => afs[f]?) 104 [.int .u8 (a : Int), .int .u8 (b : Int), .int .u8 ((c % 4 : Nat) : Int)] heap0 = some (.ret (.bool true) Hr.heap) := evC_cg (D := [1, 51, 52]) (M := [11]) (F := []) (vs := [.int .u8 (a : Int), .int .u8 ((b % 11 : Nat) : Int), .int .u8 ((c % 4 : Nat) : Int)]) ⟨⟨wrap_small (by omega), wrap_small (by omega)⟩, fun m hm => by simp only [List.mem_singleton] at hm; subst hm; exact ⟨by decide, tmod_cast b 11⟩, (fun f hf => by cases hf)⟩ (af := a104) rfl (by kernel_rfl) (by kernel_rfl) (p := 1) (k := .u8) (b := (b : Int)) rfl rfl (fun s hs => by simp at hs; simp only [List.length_cons, List.length_nil]; omega) g1
  have g3 : evC (fun f => afs[f]?) 104 [.int .u8 (a : Int), .int .u8 (b : Int), .int .u8 (c : Int)] heap0 = some (.ret (.bool true) Hr.heap) := evC_cg (D := [2, 80]) (M := [4]) (F := []) (vs := [.int .u8 (a : Int), .int .u8 (b : Int), .int .u8 ((c % 4 : Nat) : Int)]) ⟨⟨wrap_small (by omega), wrap_small (by omega)⟩, fun m hm => by simp only [List.mem_singleton] at hm; subst hm; exact ⟨by decide, tmod_cast c 4⟩, (fun f hf => by cases hf)⟩ (af := a104) rfl (by kernel_rfl) (by kernel_rfl) (p := 2) (k := .u8) (b := (c : Int)) rfl rfl (fun s hs => by simp at hs; simp only [List.length_cons, List.length_nil]; omega) g2
  exact ⟨_, g3⟩
end Ey.Gl
namespace Go.Proofs.YtcgfhnndkhkdgaaGreatDoor.gtextLines
open Go Go.ChangeShapes Go.WideShapes Go.ChangeAt Go.RowKit
theorem own : ownKnob Tryz.prog.godebug = none := by kernel_rfl
theorem walk (a b c : Nat) (ha : a < 256) (hb : b < 256) (hc : c < 256) (W : World) (hw : ∀ b o v, Ey.Gl.cx.gl b o = some v → W.cell? ⟨b, o, none⟩ = some v ∧ b < W.heap.size) : Calls Tryz.prog 3 #[.int .u8 (a : Int), .int .u8 (b : Int), .int .u8 (c : Int)] W fun e w' => e = .returned (.bool true) ∧ Below W.heap.size W w' := by
  have hsplit : a % 5 = 0 ∨ a % 5 = 1 ∨ a % 5 = 2 ∨ a % 5 = 3 ∨ a % 5 = 4 := by omega
  rcases hsplit with hs | hs | hs | hs | hs
  ·
    obtain ⟨H', h⟩ := Ey.Gl.all0 a b c ha hb hc hs
    exact Ey.args_calls Ey.Gl.known (f := 100) (fid := 3) rfl (vs := [.int .u8 (a : Int), .int .u8 (b : Int), .int .u8 (c : Int)]) rfl (fun g => Ey.vr_ints [(.u8, (a : Int)), (.u8, (b : Int)), (.u8, (c : Int))] g) h W hw
  ·
    obtain ⟨H', h⟩ := Ey.Gl.all1 a b c ha hb hc hs
    exact Ey.args_calls Ey.Gl.known (f := 101) (fid := 3) rfl (vs := [.int .u8 (a : Int), .int .u8 (b : Int), .int .u8 (c : Int)]) rfl (fun g => Ey.vr_ints [(.u8, (a : Int)), (.u8, (b : Int)), (.u8, (c : Int))] g) h W hw
  ·
    obtain ⟨H', h⟩ := Ey.Gl.all2 a b c ha hb hc hs
    exact Ey.args_calls Ey.Gl.known (f := 102) (fid := 3) rfl (vs := [.int .u8 (a : Int), .int .u8 (b : Int), .int .u8 (c : Int)]) rfl (fun g => Ey.vr_ints [(.u8, (a : Int)), (.u8, (b : Int)), (.u8, (c : Int))] g) h W hw
  ·
    obtain ⟨H', h⟩ := Ey.Gl.all3 a b c ha hb hc hs
    exact Ey.args_calls Ey.Gl.known (f := 103) (fid := 3) rfl (vs := [.int .u8 (a : Int), .int .u8 (b : Int), .int .u8 (c : Int)]) rfl (fun g => Ey.vr_ints [(.u8, (a : Int)), (.u8, (b : Int)), (.u8, (c : Int))] g) h W hw
  ·
    obtain ⟨H', h⟩ := Ey.Gl.all4 a b c ha hb hc hs
    exact Ey.args_calls Ey.Gl.known (f := 104) (fid := 3) rfl (vs := [.int .u8 (a : Int), .int .u8 (b : Int), .int .u8 (c : Int)]) rfl (fun g => Ey.vr_ints [(.u8, (a : Int)), (.u8, (b : Int)), (.u8, (c : Int))] g) h W hw
theorem gl_ok {W : World} (hL : laidMetH Tryz.prog Rows.gtextLinesRow.laid W) : ∀ b o v, Ey.Gl.cx.gl b o = some v → W.cell? ⟨b, o, none⟩ = some v ∧ b < W.heap.size := by
  rw [MakeChecks.laidMetH_plain _ _ _ (by kernel_rfl)] at hL
  have t0 : Lib.TabIs Tryz.prog W "math/bits.deBruijn64tab" .u8 [0, 1, 56, 2, 57, 49, 28, 3, 61, 58, 42, 50, 38, 29, 17, 4, 62, 47, 59, 36, 45, 43, 51, 22, 53, 39, 33, 30, 24, 18, 12, 5, 63, 55, 48, 27, 60, 41, 37, 16, 46, 35, 44, 21, 52, 32, 23, 11, 54, 26, 40, 15, 34, 20, 31, 10, 25, 14, 19, 9, 13, 8, 7, 6] := Lib.tabIs_of_head (g := 7) (t := 216) (e := 5) (n := 64) (by kernel_rfl) (by kernel_rfl) Tryz.underlying216 Tryz.underlying5 (by kernel_rfl) (by kernel_rfl) (laidMet.tail hL)
  exact Ey.gl_cons t0 (by kernel_rfl) rfl (Ey.gl_nil W)
noncomputable def start (os : Os) : World := Ey.startWith Tryz.prog 72 [(2, Pinned.utf8FirstZ)] os
theorem start_met (os : Os) (args : Array Value) : laidMetH Tryz.prog Rows.gtextLinesRow.laid (((start os).forCall (fun _ _ => 0) ⟨#[], args, []⟩).memory) :=
  laidMetH_of_parts3 (fuel := 8) (laidMet_of_run' 8 (by kernel_rfl) (by kernel_rfl)) (by kernel_rfl) (by kernel_rfl)
theorem lifted (os : Os) (started : os.Started) (H : Type) (enc : TypeId × Value → H) :
    ReturnsInHanded {} Tryz.checked os 3 .any (fun w args => (Rows.gtextLinesSpec.pre enc Tryz.prog Tryz.f3 [] false w args ∧ laidMetH Tryz.prog Rows.gtextLinesRow.laid w) ∧ sizedMet enc Tryz.prog Tryz.f3 (OpenSpec.ofChange Rows.gtextLinesSpec) false w args)
      (Rows.gtextLinesSpec.post enc Tryz.prog Tryz.f3 false true false false) := by
  refine returnsInHanded_of_change_and (C := Tryz.checked) (X := fun w _ => laidMetH Tryz.prog Rows.gtextLinesRow.laid w) (fun _ _ _ hh h => h.of_heap hh) own started (by kernel_rfl) Tryz.func3
    (ChangeSpec.witness_shaped (enc := enc) (C := Tryz.checked) (os := os) (X := fun w _ => laidMetH Tryz.prog Rows.gtextLinesRow.laid w) false (start os) #[.int .u8 0, .int .u8 0, .int .u8 0] 8 rfl (World.shaped_of_RefB (by kernel_rfl) (by kernel_rfl)) (by kernel_rfl) (by kernel_rfl) (by kernel_rfl) (start_met os _)) ?_
  intro W base args ds gs before hval0 hW _ _ hL _
  have hval : ∀ (j : Nat) t v, Tryz.f3.params[j]? = some t → args[j]? = some v → Value.okWide Tryz.prog W .any base t v := hval0
  have hW' := hW
  obtain ⟨p, q, hA0, hV, rfl, _, _⟩ := hW
  have hA : DataW.TrodAll enc Tryz.prog W 0 (fun _ => true) true Tryz.f3.params.toList args.toList ds p := hA0
  rw [Tryz.params3] at hA hval
  obtain ⟨v0, v1, v2, d0, d1, d2, p0, p1, p2, rfl, rfl, rfl, h0, h1, h2⟩ := trodAll_three hA
  obtain ⟨rfl, rfl⟩ := trodVars_none hV
  obtain ⟨z0, rfl, rfl, rfl, w0⟩ := open_int Tryz.underlying5 (hval 0 5 v0 rfl rfl) h0
  obtain ⟨z1, rfl, rfl, rfl, w1⟩ := open_int Tryz.underlying5 (hval 1 5 v1 rfl rfl) h1
  obtain ⟨z2, rfl, rfl, rfl, w2⟩ := open_int Tryz.underlying5 (hval 2 5 v2 rfl rfl) h2
  clear hA0 hval0
  simp only [List.append_nil] at hW'
  obtain ⟨a, ha, rfl⟩ : ∃ a : Nat, a < 256 ∧ z0 = (a : Int) := by
    have hz : 0 ≤ z0 ∧ z0 ≤ 255 := by simpa [Lit.wf, IntKind.min, IntKind.max, IntKind.signed, IntKind.bits] using w0
    exact ⟨z0.toNat, by omega, by omega⟩
  obtain ⟨b, hb, rfl⟩ : ∃ b : Nat, b < 256 ∧ z1 = (b : Int) := by
    have hz : 0 ≤ z1 ∧ z1 ≤ 255 := by simpa [Lit.wf, IntKind.min, IntKind.max, IntKind.signed, IntKind.bits] using w1
    exact ⟨z1.toNat, by omega, by omega⟩
  obtain ⟨c, hc, rfl⟩ : ∃ c : Nat, c < 256 ∧ z2 = (c : Int) := by
    have hz : 0 ≤ z2 ∧ z2 ≤ 255 := by simpa [Lit.wf, IntKind.min, IntKind.max, IntKind.signed, IntKind.bits] using w2
    exact ⟨z2.toNat, by omega, by omega⟩
  refine (walk a b c ha hb hc W (gl_ok hL)).mono fun e W' ⟨he, hb⟩ => ?_
  subst he
  exact ⟨_, rfl, Ey.post_low (pa := []) (pv := []) hW' (fun _ _ _ => trodAll_mk1 (shut_bool Tryz.underlying4 _)) (fun sp _ => trodAll_mk3 (shut_int Tryz.underlying5 w0) (shut_int Tryz.underlying5 w1) (shut_int Tryz.underlying5 w2)) (fun _ _ => rfl) rfl hb (ok_one (by kernel_rfl) rfl (okWide_bool_mk Tryz.underlying4 _))⟩
theorem over : Rows.GtextLinesSaid :=
  OpenClaim.holds_of_wide 3 Tryz.f3 rfl rfl rfl rfl rfl rfl rfl ⟨rfl, rfl, rfl, rfl, rfl⟩ rfl rfl rfl rfl rfl (by kernel_rfl) Tryz.func3 facts
    (of_decide_eq_true (by kernel_rfl)) (by unfold Func.isWrapper; first | (rw [if_pos (by decide +kernel)]; kernel_rfl) | (rw [if_neg (by decide +kernel)]; exact ⟨rfl, rfl⟩))
    (fun os started H enc _ => lifted os started H enc)
/-- the statement -/
theorem proved : Rows.GtextLinesCardSaid :=
  Claim7.holds_tied_plain_at .later [] [.data, .data, .data, .data, .sentinel, .sentinel, .pinned] true (true, "908b05cab7d7670c8861013cc916f32d96aa3e405f4056036df78c0308476887") true
    over (fun _ h => by cases h) (by kernel_rfl) (fun _ h => by cases h) gtextLines_row_tie rfl ⟨rfl, rfl⟩ (by kernel_rfl) rfl
    (fun f fn hf hfn => by
      obtain rfl : f = 3 := Option.some.inj ((show Tryz.prog.funcNamed "eyot/eyotlaw14.GtextLines" = some 3 by kernel_rfl).symm.trans hf) |>.symm
      obtain rfl : fn = Tryz.f3 := (Option.some.inj (Tryz.func3.symm.trans hfn)).symm
      exact ⟨by kernel_rfl, fun j t ht => by
        rw [Tryz.params3] at ht
        have hm : t ∈ [5, 5, 5] := by simpa using Array.mem_of_getElem? ht
        have hall : ([5, 5, 5].all fun u => !Tryz.prog.wantsStandIn u) = true := by kernel_rfl
        exact (show Tryz.prog.wantsStandIn t = false by simpa using List.all_eq_true.1 hall t hm)⟩)
    (by kernel_rfl)
end Go.Proofs.YtcgfhnndkhkdgaaGreatDoor.gtextLines
