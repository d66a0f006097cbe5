/- The statement Rows.GtextNumbersCardSaid, that the law answers true whatever its arguments, is proved, under no condition: the law's functions are held against code of a small language of our own (YtcgfhnndkhkdgaaGreatDoorGnC), whose evaluator the kernel runs at one argument of each remainder. -/
import Derived.Test.YtcgfhnndkhkdgaaGreatDoorGnQ0
import Derived.Test.YtcgfhnndkhkdgaaGreatDoorGnQ1
import Derived.Test.YtcgfhnndkhkdgaaGreatDoorGnQ2
import Derived.Test.YtcgfhnndkhkdgaaGreatDoorGnQ3
import Derived.Test.YtcgfhnndkhkdgaaGreatDoorGnQ4
import Derived.Test.YtcgfhnndkhkdgaaGreatDoorGnQ5
import Derived.Test.YtcgfhnndkhkdgaaGreatDoorGnQ6
import Derived.Test.YtcgfhnndkhkdgaaGreatDoorGnQ7
import Derived.Test.YtcgfhnndkhkdgaaGreatDoorGnQ8
import Derived.Test.YtcgfhnndkhkdgaaGreatDoorGnQ9
import Derived.Test.YtcgfhnndkhkdgaaGreatDoorGnQ10
import Derived.Test.YtcgfhnndkhkdgaaGreatDoorGnQ11
import Derived.Test.YtcgfhnndkhkdgaaGreatDoorGnQ12
import Derived.Test.YtcgfhnndkhkdgaaGreatDoorGnQ13
import Derived.Test.YtcgfhnndkhkdgaaGreatDoorGnQ14
import Derived.Test.YtcgfhnndkhkdgaaGreatDoorGnQ15
import Derived.Test.YtcgfhnndkhkdgaaGreatDoorGnQ16
import Derived.Test.YtcgfhnndkhkdgaaGreatDoorGnQ17
import Derived.Test.YtcgfhnndkhkdgaaGreatDoorGnQ18
import Derived.Test.YtcgfhnndkhkdgaaGreatDoorGnQ19
import Derived.Test.YtcgfhnndkhkdgaaGreatDoorGnQ20
import Derived.Test.YtcgfhnndkhkdgaaGreatDoorGnF
import Derived.Test.YtcgfhnndkhkdgaaGreatDoorGnR0
import Derived.Test.YtcgfhnndkhkdgaaGreatDoorGnC
import Derived.Test.YtcgfhnndkhkdgaaGreatDoorEyB4
import Derived.ProofKit
import Derived.OpenShut
import Derived.Test.YtcgfhnndkhkdgaaGreatDoorTie
import Derived.Test.YtcgfhnndkhkdgaaGreatDoorCards
import Derived.SevenTiedAt
set_option maxRecDepth 1000000
namespace Ey.Gn
open Go (IntKind)
theorem lk0_ok : ∀ f, ZEok (fun f => afs[f]?) f (lk0 f) := (nats_nil look)
theorem m0_ok : MemOK (fun f => afs[f]?) 63 m0 := mem_run (m := m0) lk0_ok r0
theorem m1_ok : MemOK (fun f => afs[f]?) 63 m1 := mem_run (m := m1) lk0_ok r1
theorem m2_ok : MemOK (fun f => afs[f]?) 63 m2 := mem_run (m := m2) lk0_ok r2
theorem m3_ok : MemOK (fun f => afs[f]?) 63 m3 := mem_run (m := m3) lk0_ok r3
theorem m4_ok : MemOK (fun f => afs[f]?) 63 m4 := mem_run (m := m4) lk0_ok r4
theorem m5_ok : MemOK (fun f => afs[f]?) 63 m5 := mem_run (m := m5) lk0_ok r5
theorem m6_ok : MemOK (fun f => afs[f]?) 63 m6 := mem_run (m := m6) lk0_ok r6
theorem m7_ok : MemOK (fun f => afs[f]?) 48 m7 := mem_run (m := m7) lk0_ok r7
theorem m8_ok : MemOK (fun f => afs[f]?) 63 m8 := mem_run (m := m8) lk0_ok r8
theorem m9_ok : MemOK (fun f => afs[f]?) 48 m9 := mem_run (m := m9) lk0_ok r9
theorem m10_ok : MemOK (fun f => afs[f]?) 63 m10 := mem_run (m := m10) lk0_ok r10
theorem m11_ok : MemOK (fun f => afs[f]?) 63 m11 := mem_run (m := m11) lk0_ok r11
theorem m12_ok : MemOK (fun f => afs[f]?) 63 m12 := mem_run (m := m12) lk0_ok r12
theorem m13_ok : MemOK (fun f => afs[f]?) 63 m13 := mem_run (m := m13) lk0_ok r13
theorem m14_ok : MemOK (fun f => afs[f]?) 48 m14 := mem_run (m := m14) lk0_ok r14
theorem m15_ok : MemOK (fun f => afs[f]?) 28 m15 := mem_run (m := m15) lk0_ok r15
theorem m16_ok : MemOK (fun f => afs[f]?) 48 m16 := mem_run (m := m16) lk0_ok r16
theorem m17_ok : MemOK (fun f => afs[f]?) 34 m17 := mem_run (m := m17) lk0_ok r17
theorem m18_ok : MemOK (fun f => afs[f]?) 48 m18 := mem_run (m := m18) lk0_ok r18
theorem m19_ok : MemOK (fun f => afs[f]?) 28 m19 := mem_run (m := m19) lk0_ok r19
theorem m20_ok : MemOK (fun f => afs[f]?) 48 m20 := mem_run (m := m20) lk0_ok r20
theorem m21_ok : MemOK (fun f => afs[f]?) 23 m21 := mem_run (m := m21) lk0_ok r21
theorem m22_ok : MemOK (fun f => afs[f]?) 48 m22 := mem_run (m := m22) lk0_ok r22
theorem m23_ok : MemOK (fun f => afs[f]?) 34 m23 := mem_run (m := m23) lk0_ok r23
theorem m24_ok : MemOK (fun f => afs[f]?) 63 m24 := mem_run (m := m24) lk0_ok r24
theorem m25_ok : MemOK (fun f => afs[f]?) 63 m25 := mem_run (m := m25) lk0_ok r25
theorem m26_ok : MemOK (fun f => afs[f]?) 87 m26 := mem_run (m := m26) lk0_ok r26
theorem m27_ok : MemOK (fun f => afs[f]?) 87 m27 := mem_run (m := m27) lk0_ok r27
theorem m28_ok : MemOK (fun f => afs[f]?) 87 m28 := mem_run (m := m28) lk0_ok r28
theorem m29_ok : MemOK (fun f => afs[f]?) 87 m29 := mem_run (m := m29) lk0_ok r29
theorem m30_ok : MemOK (fun f => afs[f]?) 63 m30 := mem_run (m := m30) lk0_ok r30
theorem m31_ok : MemOK (fun f => afs[f]?) 63 m31 := mem_run (m := m31) lk0_ok r31
theorem lk1_ok : ∀ f, ZEok (fun f => afs[f]?) f (lk1 f) := (nats_cons (memZ_ok (f := 23) rfl (List.forall_mem_cons.2 ⟨m21_ok, (fun _ h => by cases h)⟩)) (nats_cons (memZ_ok (f := 28) rfl (List.forall_mem_cons.2 ⟨m15_ok, (List.forall_mem_cons.2 ⟨m19_ok, (fun _ h => by cases h)⟩)⟩)) (nats_cons (memZ_ok (f := 34) rfl (List.forall_mem_cons.2 ⟨m17_ok, (List.forall_mem_cons.2 ⟨m23_ok, (fun _ h => by cases h)⟩)⟩)) (nats_cons (memZ_ok (f := 48) rfl (List.forall_mem_cons.2 ⟨m7_ok, (List.forall_mem_cons.2 ⟨m9_ok, (List.forall_mem_cons.2 ⟨m14_ok, (List.forall_mem_cons.2 ⟨m16_ok, (List.forall_mem_cons.2 ⟨m18_ok, (List.forall_mem_cons.2 ⟨m20_ok, (List.forall_mem_cons.2 ⟨m22_ok, (fun _ h => by cases h)⟩)⟩)⟩)⟩)⟩)⟩)⟩)) (nats_cons (memZ_ok (f := 63) rfl (List.forall_mem_cons.2 ⟨m0_ok, (List.forall_mem_cons.2 ⟨m1_ok, (List.forall_mem_cons.2 ⟨m2_ok, (List.forall_mem_cons.2 ⟨m3_ok, (List.forall_mem_cons.2 ⟨m4_ok, (List.forall_mem_cons.2 ⟨m5_ok, (List.forall_mem_cons.2 ⟨m6_ok, (List.forall_mem_cons.2 ⟨m8_ok, (List.forall_mem_cons.2 ⟨m10_ok, (List.forall_mem_cons.2 ⟨m11_ok, (List.forall_mem_cons.2 ⟨m12_ok, (List.forall_mem_cons.2 ⟨m13_ok, (List.forall_mem_cons.2 ⟨m24_ok, (List.forall_mem_cons.2 ⟨m25_ok, (List.forall_mem_cons.2 ⟨m30_ok, (List.forall_mem_cons.2 ⟨m31_ok, (fun _ h => by cases h)⟩)⟩)⟩)⟩)⟩)⟩)⟩)⟩)⟩)⟩)⟩)⟩)⟩)⟩)⟩)⟩)) (nats_cons (memZ_ok (f := 87) rfl (List.forall_mem_cons.2 ⟨m26_ok, (List.forall_mem_cons.2 ⟨m27_ok, (List.forall_mem_cons.2 ⟨m28_ok, (List.forall_mem_cons.2 ⟨m29_ok, (fun _ h => by cases h)⟩)⟩)⟩)⟩)) (nats_nil look)))))))
theorem m32_ok : MemOK (fun f => afs[f]?) 28 m32 := mem_run (m := m32) lk1_ok r32
theorem lk2_ok : ∀ f, ZEok (fun f => afs[f]?) f (lk2 f) := (nats_cons (memZ_ok (f := 23) rfl (List.forall_mem_cons.2 ⟨m21_ok, (fun _ h => by cases h)⟩)) (nats_cons (memZ_ok (f := 28) rfl (List.forall_mem_cons.2 ⟨m15_ok, (List.forall_mem_cons.2 ⟨m19_ok, (List.forall_mem_cons.2 ⟨m32_ok, (fun _ h => by cases h)⟩)⟩)⟩)) (nats_cons (memZ_ok (f := 34) rfl (List.forall_mem_cons.2 ⟨m17_ok, (List.forall_mem_cons.2 ⟨m23_ok, (fun _ h => by cases h)⟩)⟩)) (nats_cons (memZ_ok (f := 48) rfl (List.forall_mem_cons.2 ⟨m7_ok, (List.forall_mem_cons.2 ⟨m9_ok, (List.forall_mem_cons.2 ⟨m14_ok, (List.forall_mem_cons.2 ⟨m16_ok, (List.forall_mem_cons.2 ⟨m18_ok, (List.forall_mem_cons.2 ⟨m20_ok, (List.forall_mem_cons.2 ⟨m22_ok, (fun _ h => by cases h)⟩)⟩)⟩)⟩)⟩)⟩)⟩)) (nats_cons (memZ_ok (f := 63) rfl (List.forall_mem_cons.2 ⟨m0_ok, (List.forall_mem_cons.2 ⟨m1_ok, (List.forall_mem_cons.2 ⟨m2_ok, (List.forall_mem_cons.2 ⟨m3_ok, (List.forall_mem_cons.2 ⟨m4_ok, (List.forall_mem_cons.2 ⟨m5_ok, (List.forall_mem_cons.2 ⟨m6_ok, (List.forall_mem_cons.2 ⟨m8_ok, (List.forall_mem_cons.2 ⟨m10_ok, (List.forall_mem_cons.2 ⟨m11_ok, (List.forall_mem_cons.2 ⟨m12_ok, (List.forall_mem_cons.2 ⟨m13_ok, (List.forall_mem_cons.2 ⟨m24_ok, (List.forall_mem_cons.2 ⟨m25_ok, (List.forall_mem_cons.2 ⟨m30_ok, (List.forall_mem_cons.2 ⟨m31_ok, (fun _ h => by cases h)⟩)⟩)⟩)⟩)⟩)⟩)⟩)⟩)⟩)⟩)⟩)⟩)⟩)⟩)⟩)⟩)) (nats_cons (memZ_ok (f := 87) rfl (List.forall_mem_cons.2 ⟨m26_ok, (List.forall_mem_cons.2 ⟨m27_ok, (List.forall_mem_cons.2 ⟨m28_ok, (List.forall_mem_cons.2 ⟨m29_ok, (fun _ h => by cases h)⟩)⟩)⟩)⟩)) (nats_nil look)))))))
theorem begunIs : evC (fun f => afs[f]?) 88 [] heap0 = some (.ret (.bool true) heap0) := by
  obtain ⟨H, h⟩ := tru_ret begunRun
  have h2 := runZ_ret lk2_ok (w := .nil) (H := ZH.none) trivial h
  have h3 := pure_ret (af := a88) rfl rfl h2
  rw [h3] at h2
  exact h2
theorem beg_ok : ZEok (fun f => afs[f]?) 88 onceZ := once_ok begunIs
theorem lkB_ok : ∀ f, ZEok (fun f => afs[f]?) f (lkB f) := (nats_cons beg_ok (nats_cons (memZ_ok (f := 23) rfl (List.forall_mem_cons.2 ⟨m21_ok, (fun _ h => by cases h)⟩)) (nats_cons (memZ_ok (f := 28) rfl (List.forall_mem_cons.2 ⟨m15_ok, (List.forall_mem_cons.2 ⟨m19_ok, (List.forall_mem_cons.2 ⟨m32_ok, (fun _ h => by cases h)⟩)⟩)⟩)) (nats_cons (memZ_ok (f := 34) rfl (List.forall_mem_cons.2 ⟨m17_ok, (List.forall_mem_cons.2 ⟨m23_ok, (fun _ h => by cases h)⟩)⟩)) (nats_cons (memZ_ok (f := 48) rfl (List.forall_mem_cons.2 ⟨m7_ok, (List.forall_mem_cons.2 ⟨m9_ok, (List.forall_mem_cons.2 ⟨m14_ok, (List.forall_mem_cons.2 ⟨m16_ok, (List.forall_mem_cons.2 ⟨m18_ok, (List.forall_mem_cons.2 ⟨m20_ok, (List.forall_mem_cons.2 ⟨m22_ok, (fun _ h => by cases h)⟩)⟩)⟩)⟩)⟩)⟩)⟩)) (nats_cons (memZ_ok (f := 63) rfl (List.forall_mem_cons.2 ⟨m0_ok, (List.forall_mem_cons.2 ⟨m1_ok, (List.forall_mem_cons.2 ⟨m2_ok, (List.forall_mem_cons.2 ⟨m3_ok, (List.forall_mem_cons.2 ⟨m4_ok, (List.forall_mem_cons.2 ⟨m5_ok, (List.forall_mem_cons.2 ⟨m6_ok, (List.forall_mem_cons.2 ⟨m8_ok, (List.forall_mem_cons.2 ⟨m10_ok, (List.forall_mem_cons.2 ⟨m11_ok, (List.forall_mem_cons.2 ⟨m12_ok, (List.forall_mem_cons.2 ⟨m13_ok, (List.forall_mem_cons.2 ⟨m24_ok, (List.forall_mem_cons.2 ⟨m25_ok, (List.forall_mem_cons.2 ⟨m30_ok, (List.forall_mem_cons.2 ⟨m31_ok, (fun _ h => by cases h)⟩)⟩)⟩)⟩)⟩)⟩)⟩)⟩)⟩)⟩)⟩)⟩)⟩)⟩)⟩)⟩)) (nats_cons (memZ_ok (f := 87) rfl (List.forall_mem_cons.2 ⟨m26_ok, (List.forall_mem_cons.2 ⟨m27_ok, (List.forall_mem_cons.2 ⟨m28_ok, (List.forall_mem_cons.2 ⟨m29_ok, (fun _ h => by cases h)⟩)⟩)⟩)⟩)) (nats_nil look))))))))
theorem run0 (n : Nat) (hn : n < 200) : (fun a : Nat => allN (fun b => tru (callZ lkB 100000 94 (.one (.u 1 a) (.one (.u 0 b) .nil)) ZH.none)) 9) n = true := by
  match n, hn with
  | 0, _ => exact run0_0
  | 1, _ => exact run0_1
  | 2, _ => exact run0_2
  | 3, _ => exact run0_3
  | 4, _ => exact run0_4
  | 5, _ => exact run0_5
  | 6, _ => exact run0_6
  | 7, _ => exact run0_7
  | 8, _ => exact run0_8
  | 9, _ => exact run0_9
  | 10, _ => exact run0_10
  | 11, _ => exact run0_11
  | 12, _ => exact run0_12
  | 13, _ => exact run0_13
  | 14, _ => exact run0_14
  | 15, _ => exact run0_15
  | 16, _ => exact run0_16
  | 17, _ => exact run0_17
  | 18, _ => exact run0_18
  | 19, _ => exact run0_19
  | 20, _ => exact run0_20
  | 21, _ => exact run0_21
  | 22, _ => exact run0_22
  | 23, _ => exact run0_23
  | 24, _ => exact run0_24
  | 25, _ => exact run0_25
  | 26, _ => exact run0_26
  | 27, _ => exact run0_27
  | 28, _ => exact run0_28
  | 29, _ => exact run0_29
  | 30, _ => exact run0_30
  | 31, _ => exact run0_31
  | 32, _ => exact run0_32
  | 33, _ => exact run0_33
  | 34, _ => exact run0_34
  | 35, _ => exact run0_35
  | 36, _ => exact run0_36
  | 37, _ => exact run0_37
  | 38, _ => exact run0_38
  | 39, _ => exact run0_39
  | 40, _ => exact run0_40
  | 41, _ => exact run0_41
  | 42, _ => exact run0_42
  | 43, _ => exact run0_43
  | 44, _ => exact run0_44
  | 45, _ => exact run0_45
  | 46, _ => exact run0_46
  | 47, _ => exact run0_47
  | 48, _ => exact run0_48
  | 49, _ => exact run0_49
  | 50, _ => exact run0_50
  | 51, _ => exact run0_51
  | 52, _ => exact run0_52
  | 53, _ => exact run0_53
  | 54, _ => exact run0_54
  | 55, _ => exact run0_55
  | 56, _ => exact run0_56
  | 57, _ => exact run0_57
  | 58, _ => exact run0_58
  | 59, _ => exact run0_59
  | 60, _ => exact run0_60
  | 61, _ => exact run0_61
  | 62, _ => exact run0_62
  | 63, _ => exact run0_63
  | 64, _ => exact run0_64
  | 65, _ => exact run0_65
  | 66, _ => exact run0_66
  | 67, _ => exact run0_67
  | 68, _ => exact run0_68
  | 69, _ => exact run0_69
  | 70, _ => exact run0_70
  | 71, _ => exact run0_71
  | 72, _ => exact run0_72
  | 73, _ => exact run0_73
  | 74, _ => exact run0_74
  | 75, _ => exact run0_75
  | 76, _ => exact run0_76
  | 77, _ => exact run0_77
  | 78, _ => exact run0_78
  | 79, _ => exact run0_79
  | 80, _ => exact run0_80
  | 81, _ => exact run0_81
  | 82, _ => exact run0_82
  | 83, _ => exact run0_83
  | 84, _ => exact run0_84
  | 85, _ => exact run0_85
  | 86, _ => exact run0_86
  | 87, _ => exact run0_87
  | 88, _ => exact run0_88
  | 89, _ => exact run0_89
  | 90, _ => exact run0_90
  | 91, _ => exact run0_91
  | 92, _ => exact run0_92
  | 93, _ => exact run0_93
  | 94, _ => exact run0_94
  | 95, _ => exact run0_95
  | 96, _ => exact run0_96
  | 97, _ => exact run0_97
  | 98, _ => exact run0_98
  | 99, _ => exact run0_99
  | 100, _ => exact run0_100
  | 101, _ => exact run0_101
  | 102, _ => exact run0_102
  | 103, _ => exact run0_103
  | 104, _ => exact run0_104
  | 105, _ => exact run0_105
  | 106, _ => exact run0_106
  | 107, _ => exact run0_107
  | 108, _ => exact run0_108
  | 109, _ => exact run0_109
  | 110, _ => exact run0_110
  | 111, _ => exact run0_111
  | 112, _ => exact run0_112
  | 113, _ => exact run0_113
  | 114, _ => exact run0_114
  | 115, _ => exact run0_115
  | 116, _ => exact run0_116
  | 117, _ => exact run0_117
  | 118, _ => exact run0_118
  | 119, _ => exact run0_119
  | 120, _ => exact run0_120
  | 121, _ => exact run0_121
  | 122, _ => exact run0_122
  | 123, _ => exact run0_123
  | 124, _ => exact run0_124
  | 125, _ => exact run0_125
  | 126, _ => exact run0_126
  | 127, _ => exact run0_127
  | 128, _ => exact run0_128
  | 129, _ => exact run0_129
  | 130, _ => exact run0_130
  | 131, _ => exact run0_131
  | 132, _ => exact run0_132
  | 133, _ => exact run0_133
  | 134, _ => exact run0_134
  | 135, _ => exact run0_135
  | 136, _ => exact run0_136
  | 137, _ => exact run0_137
  | 138, _ => exact run0_138
  | 139, _ => exact run0_139
  | 140, _ => exact run0_140
  | 141, _ => exact run0_141
  | 142, _ => exact run0_142
  | 143, _ => exact run0_143
  | 144, _ => exact run0_144
  | 145, _ => exact run0_145
  | 146, _ => exact run0_146
  | 147, _ => exact run0_147
  | 148, _ => exact run0_148
  | 149, _ => exact run0_149
  | 150, _ => exact run0_150
  | 151, _ => exact run0_151
  | 152, _ => exact run0_152
  | 153, _ => exact run0_153
  | 154, _ => exact run0_154
  | 155, _ => exact run0_155
  | 156, _ => exact run0_156
  | 157, _ => exact run0_157
  | 158, _ => exact run0_158
  | 159, _ => exact run0_159
  | 160, _ => exact run0_160
  | 161, _ => exact run0_161
  | 162, _ => exact run0_162
  | 163, _ => exact run0_163
  | 164, _ => exact run0_164
  | 165, _ => exact run0_165
  | 166, _ => exact run0_166
  | 167, _ => exact run0_167
  | 168, _ => exact run0_168
  | 169, _ => exact run0_169
  | 170, _ => exact run0_170
  | 171, _ => exact run0_171
  | 172, _ => exact run0_172
  | 173, _ => exact run0_173
  | 174, _ => exact run0_174
  | 175, _ => exact run0_175
  | 176, _ => exact run0_176
  | 177, _ => exact run0_177
  | 178, _ => exact run0_178
  | 179, _ => exact run0_179
  | 180, _ => exact run0_180
  | 181, _ => exact run0_181
  | 182, _ => exact run0_182
  | 183, _ => exact run0_183
  | 184, _ => exact run0_184
  | 185, _ => exact run0_185
  | 186, _ => exact run0_186
  | 187, _ => exact run0_187
  | 188, _ => exact run0_188
  | 189, _ => exact run0_189
  | 190, _ => exact run0_190
  | 191, _ => exact run0_191
  | 192, _ => exact run0_192
  | 193, _ => exact run0_193
  | 194, _ => exact run0_194
  | 195, _ => exact run0_195
  | 196, _ => exact run0_196
  | 197, _ => exact run0_197
  | 198, _ => exact run0_198
  | 199, _ => exact run0_199
  | n + 200, h => exact absurd h (by omega)
theorem all0 (a b : Nat) (ha : a < 65536) (hb : b < 256)  : ∃ H', evC (fun f => afs[f]?) 94 [.int .u16 (a : Int), .int .u8 (b : Int)] heap0 = some (.ret (.bool true) H') := by
  have ra := run0 (a % 200) (Nat.mod_lt _ (by decide))
  have rb := allN_ok (ra) (b % 9) (Nat.mod_lt _ (by decide))
  obtain ⟨Hr, h0⟩ := tru_ret (rb)
  have h0 := runZ_ret lkB_ok (w := .one (.u 1 (a % 200)) (.one (.u 0 (b % 9)) .nil)) (H := ZH.none) trivial h0
  have g0 : evC (fun f => afs[f]?) 94 [.int .u16 ((a % 200 : Nat) : Int), .int .u8 ((b % 9 : Nat) : Int)] heap0 = some (.ret (.bool true) Hr.heap) := h0
  have g1 : evC (fun f => afs[f]?) 94 [.int .u16 (a : Int), .int .u8 ((b % 9 : Nat) : Int)] heap0 = some (.ret (.bool true) Hr.heap) := evC_cg (D := [0, 14, 15]) (M := [200]) (F := []) (vs := [.int .u16 ((a % 200 : Nat) : Int), .int .u8 ((b % 9 : Nat) : Int)]) ⟨⟨wrap_small (by omega), wrap_small (by omega)⟩, fun m hm => by simp only [List.mem_singleton] at hm; subst hm; exact ⟨by decide, tmod_cast a 200⟩, (fun f hf => by cases hf)⟩ (af := a94) rfl (by kernel_rfl) (by kernel_rfl) (p := 0) (k := .u16) (b := (a : Int)) rfl rfl (fun s hs => by simp at hs; simp only [List.length_cons, List.length_nil]; omega) g0
  have g2 : evC (fun f => afs[f]?) 94 [.int .u16 (a : Int), .int .u8 (b : Int)] heap0 = some (.ret (.bool true) Hr.heap) := evC_cg (D := [1, 35]) (M := [9]) (F := []) (vs := [.int .u16 (a : Int), .int .u8 ((b % 9 : Nat) : Int)]) ⟨⟨wrap_small (by omega), wrap_small (by omega)⟩, fun m hm => by simp only [List.mem_singleton] at hm; subst hm; exact ⟨by decide, tmod_cast b 9⟩, (fun f hf => by cases hf)⟩ (af := a94) rfl (by kernel_rfl) (by kernel_rfl) (p := 1) (k := .u8) (b := (b : Int)) rfl rfl (fun s hs => by simp at hs; simp only [List.length_cons, List.length_nil]; omega) g1
  exact ⟨_, g2⟩
end Ey.Gn
namespace Go.Proofs.YtcgfhnndkhkdgaaGreatDoor.gtextNumbers
open Go Go.ChangeShapes Go.WideShapes Go.ChangeAt Go.RowKit
theorem own : ownKnob Tryz.prog.godebug = none := by kernel_rfl
theorem walk (a b : Nat) (ha : a < 65536) (hb : b < 256) (W : World) (hw : ∀ b o v, Ey.Gn.cx.gl b o = some v → W.cell? ⟨b, o, none⟩ = some v ∧ b < W.heap.size) : Calls Tryz.prog 4 #[.int .u16 (a : Int), .int .u8 (b : Int)] W fun e w' => e = .returned (.bool true) ∧ Below W.heap.size W w' := by
  obtain ⟨H', h⟩ := Ey.Gn.all0 a b ha hb
  exact Ey.args_calls Ey.Gn.known (f := 94) (fid := 4) rfl (vs := [.int .u16 (a : Int), .int .u8 (b : Int)]) rfl (fun g => Ey.vr_ints [(.u16, (a : Int)), (.u8, (b : Int))] g) h W hw
theorem gl_ok {W : World} (hL : laidMetH Tryz.prog Rows.gtextNumbersRow.laid W) : ∀ b o v, Ey.Gn.cx.gl b o = some v → W.cell? ⟨b, o, none⟩ = some v ∧ b < W.heap.size := by
  rw [MakeChecks.laidMetH_plain _ _ _ (by kernel_rfl)] at hL
  have t0 : Lib.TabIs Tryz.prog W "math/bits.deBruijn64tab" .u8 [0, 1, 56, 2, 57, 49, 28, 3, 61, 58, 42, 50, 38, 29, 17, 4, 62, 47, 59, 36, 45, 43, 51, 22, 53, 39, 33, 30, 24, 18, 12, 5, 63, 55, 48, 27, 60, 41, 37, 16, 46, 35, 44, 21, 52, 32, 23, 11, 54, 26, 40, 15, 34, 20, 31, 10, 25, 14, 19, 9, 13, 8, 7, 6] := Lib.tabIs_of_head (g := 7) (t := 216) (e := 5) (n := 64) (by kernel_rfl) (by kernel_rfl) Tryz.underlying216 Tryz.underlying5 (by kernel_rfl) (by kernel_rfl) (laidMet.tail hL)
  exact Ey.gl_cons t0 (by kernel_rfl) rfl (Ey.gl_nil W)
noncomputable def start (os : Os) : World := Ey.startWith Tryz.prog 72 [(2, Pinned.utf8FirstZ)] os
theorem start_met (os : Os) (args : Array Value) : laidMetH Tryz.prog Rows.gtextNumbersRow.laid (((start os).forCall (fun _ _ => 0) ⟨#[], args, []⟩).memory) :=
  laidMetH_of_parts3 (fuel := 8) (laidMet_of_run' 8 (by kernel_rfl) (by kernel_rfl)) (by kernel_rfl) (by kernel_rfl)
theorem lifted (os : Os) (started : os.Started) (H : Type) (enc : TypeId × Value → H) :
    ReturnsInHanded {} Tryz.checked os 4 .any (fun w args => (Rows.gtextNumbersSpec.pre enc Tryz.prog Tryz.f4 [] false w args ∧ laidMetH Tryz.prog Rows.gtextNumbersRow.laid w) ∧ sizedMet enc Tryz.prog Tryz.f4 (OpenSpec.ofChange Rows.gtextNumbersSpec) false w args)
      (Rows.gtextNumbersSpec.post enc Tryz.prog Tryz.f4 false true false false) := by
  refine returnsInHanded_of_change_and (C := Tryz.checked) (X := fun w _ => laidMetH Tryz.prog Rows.gtextNumbersRow.laid w) (fun _ _ _ hh h => h.of_heap hh) own started (by kernel_rfl) Tryz.func4
    (ChangeSpec.witness_shaped (enc := enc) (C := Tryz.checked) (os := os) (X := fun w _ => laidMetH Tryz.prog Rows.gtextNumbersRow.laid w) false (start os) #[.int .u16 0, .int .u8 0] 8 rfl (World.shaped_of_RefB (by kernel_rfl) (by kernel_rfl)) (by kernel_rfl) (by kernel_rfl) (by kernel_rfl) (start_met os _)) ?_
  intro W base args ds gs before hval0 hW _ _ hL _
  have hval : ∀ (j : Nat) t v, Tryz.f4.params[j]? = some t → args[j]? = some v → Value.okWide Tryz.prog W .any base t v := hval0
  have hW' := hW
  obtain ⟨p, q, hA0, hV, rfl, _, _⟩ := hW
  have hA : DataW.TrodAll enc Tryz.prog W 0 (fun _ => true) true Tryz.f4.params.toList args.toList ds p := hA0
  rw [Tryz.params4] at hA hval
  obtain ⟨v0, v1, d0, d1, p0, p1, rfl, rfl, rfl, h0, h1⟩ := trodAll_two hA
  obtain ⟨rfl, rfl⟩ := trodVars_none hV
  obtain ⟨z0, rfl, rfl, rfl, w0⟩ := open_int Tryz.underlying35 (hval 0 35 v0 rfl rfl) h0
  obtain ⟨z1, rfl, rfl, rfl, w1⟩ := open_int Tryz.underlying5 (hval 1 5 v1 rfl rfl) h1
  clear hA0 hval0
  simp only [List.append_nil] at hW'
  obtain ⟨a, ha, rfl⟩ : ∃ a : Nat, a < 65536 ∧ z0 = (a : Int) := by
    have hz : 0 ≤ z0 ∧ z0 ≤ 65535 := by simpa [Lit.wf, IntKind.min, IntKind.max, IntKind.signed, IntKind.bits] using w0
    exact ⟨z0.toNat, by omega, by omega⟩
  obtain ⟨b, hb, rfl⟩ : ∃ b : Nat, b < 256 ∧ z1 = (b : Int) := by
    have hz : 0 ≤ z1 ∧ z1 ≤ 255 := by simpa [Lit.wf, IntKind.min, IntKind.max, IntKind.signed, IntKind.bits] using w1
    exact ⟨z1.toNat, by omega, by omega⟩
  refine (walk a b ha hb W (gl_ok hL)).mono fun e W' ⟨he, hb⟩ => ?_
  subst he
  exact ⟨_, rfl, Ey.post_low (pa := []) (pv := []) hW' (fun _ _ _ => trodAll_mk1 (shut_bool Tryz.underlying4 _)) (fun sp _ => trodAll_mk2 (shut_int Tryz.underlying35 w0) (shut_int Tryz.underlying5 w1)) (fun _ _ => rfl) rfl hb (ok_one (by kernel_rfl) rfl (okWide_bool_mk Tryz.underlying4 _))⟩
theorem over : Rows.GtextNumbersSaid :=
  OpenClaim.holds_of_wide 4 Tryz.f4 rfl rfl rfl rfl rfl rfl rfl ⟨rfl, rfl, rfl, rfl, rfl⟩ rfl rfl rfl rfl rfl (by kernel_rfl) Tryz.func4 facts
    (of_decide_eq_true (by kernel_rfl)) (by unfold Func.isWrapper; first | (rw [if_pos (by decide +kernel)]; kernel_rfl) | (rw [if_neg (by decide +kernel)]; exact ⟨rfl, rfl⟩))
    (fun os started H enc _ => lifted os started H enc)
/-- the statement -/
theorem proved : Rows.GtextNumbersCardSaid :=
  Claim7.holds_tied_plain_at .later [] [.data, .data, .data, .data, .sentinel, .sentinel, .pinned] true (true, "908b05cab7d7670c8861013cc916f32d96aa3e405f4056036df78c0308476887") true
    over (fun _ h => by cases h) (by kernel_rfl) (fun _ h => by cases h) gtextNumbers_row_tie rfl ⟨rfl, rfl⟩ (by kernel_rfl) rfl
    (fun f fn hf hfn => by
      obtain rfl : f = 4 := Option.some.inj ((show Tryz.prog.funcNamed "eyot/eyotlaw14.GtextNumbers" = some 4 by kernel_rfl).symm.trans hf) |>.symm
      obtain rfl : fn = Tryz.f4 := (Option.some.inj (Tryz.func4.symm.trans hfn)).symm
      exact ⟨by kernel_rfl, fun j t ht => by
        rw [Tryz.params4] at ht
        have hm : t ∈ [35, 5] := by simpa using Array.mem_of_getElem? ht
        have hall : ([35, 5].all fun u => !Tryz.prog.wantsStandIn u) = true := by kernel_rfl
        exact (show Tryz.prog.wantsStandIn t = false by simpa using List.all_eq_true.1 hall t hm)⟩)
    (by kernel_rfl)
end Go.Proofs.YtcgfhnndkhkdgaaGreatDoor.gtextNumbers
