/- The statement Rows.GtextOrderCardSaid, that the law answers true whatever its arguments, is proved, under no condition: the law's functions are held against code of a small language of our own (YtijaafflmbjdgaaGreatDoorGrC), whose evaluator the kernel runs at one argument of each remainder. -/
import Derived.Test.YtijaafflmbjdgaaGreatDoorGrQ0
import Derived.Test.YtijaafflmbjdgaaGreatDoorGrQ1
import Derived.Test.YtijaafflmbjdgaaGreatDoorGrQ2
import Derived.Test.YtijaafflmbjdgaaGreatDoorGrQ3
import Derived.Test.YtijaafflmbjdgaaGreatDoorGrQ4
import Derived.Test.YtijaafflmbjdgaaGreatDoorGrF
import Derived.Test.YtijaafflmbjdgaaGreatDoorGrRE
import Derived.Test.YtijaafflmbjdgaaGreatDoorGrR0
import Derived.Test.YtijaafflmbjdgaaGreatDoorGrR1
import Derived.Test.YtijaafflmbjdgaaGreatDoorGrR2
import Derived.Test.YtijaafflmbjdgaaGreatDoorGrR3
import Derived.Test.YtijaafflmbjdgaaGreatDoorGrR4
import Derived.Test.YtijaafflmbjdgaaGreatDoorGrR5
import Derived.Test.YtijaafflmbjdgaaGreatDoorGrR6
import Derived.Test.YtijaafflmbjdgaaGreatDoorGrR7
import Derived.Test.YtijaafflmbjdgaaGreatDoorGrR8
import Derived.Test.YtijaafflmbjdgaaGreatDoorGrR9
import Derived.Test.YtijaafflmbjdgaaGreatDoorGrR10
import Derived.Test.YtijaafflmbjdgaaGreatDoorGrR11
import Derived.Test.YtijaafflmbjdgaaGreatDoorGrR12
import Derived.Test.YtijaafflmbjdgaaGreatDoorGrR13
import Derived.Test.YtijaafflmbjdgaaGreatDoorGrR14
import Derived.Test.YtijaafflmbjdgaaGreatDoorGrR15
import Derived.Test.YtijaafflmbjdgaaGreatDoorGrR16
import Derived.Test.YtijaafflmbjdgaaGreatDoorGrR17
import Derived.Test.YtijaafflmbjdgaaGreatDoorGrR18
import Derived.Test.YtijaafflmbjdgaaGreatDoorGrR19
import Derived.Test.YtijaafflmbjdgaaGreatDoorGrC
import Derived.Test.YtijaafflmbjdgaaGreatDoorEyB4
import Derived.ProofKit
import Derived.OpenShut
import Derived.Test.YtijaafflmbjdgaaGreatDoorTie
import Derived.Test.YtijaafflmbjdgaaGreatDoorCards
import Derived.SevenTiedAt
set_option maxRecDepth 1000000
namespace Ey.Gr
open Go (IntKind)
noncomputable abbrev Ev := evC (fun f => afs[f]?)
theorem one1 {α : Type} {P : α → Prop} {x : α} (h : P x) : ∀ y ∈ [x], P y := fun y hy => by simp only [List.mem_singleton] at hy; subst hy; exact h
abbrev MO (f : Nat) (m : Mem) : Prop := MemOK (fun f => afs[f]?) f m
theorem mc {Φ : Nat → Option AFn} {f : Nat} {m : Mem} {l : List Mem} (h : MemOK Φ f m) (t : ∀ x ∈ l, MemOK Φ f x) : ∀ x ∈ m :: l, MemOK Φ f x := List.forall_mem_cons.2 ⟨h, t⟩
theorem lk0_ok : ∀ f, ZEok (fun f => afs[f]?) f (lk0 f) := (nats_nil look)
theorem k0 : MO 165 m0 := mem_run lk0_ok r0
theorem k1 : MO 165 m1 := mem_run lk0_ok r1
theorem k2 : MO 165 m2 := mem_run lk0_ok r2
theorem k3 : MO 165 m3 := mem_run lk0_ok r3
theorem k4 : MO 165 m4 := mem_run lk0_ok r4
theorem k5 : MO 165 m5 := mem_run lk0_ok r5
theorem k6 : MO 165 m6 := mem_run lk0_ok r6
theorem k7 : MO 165 m7 := mem_run lk0_ok r7
theorem k8 : MO 165 m8 := mem_run lk0_ok r8
theorem k9 : MO 165 m9 := mem_run lk0_ok r9
theorem k10 : MO 165 m10 := mem_run lk0_ok r10
theorem k11 : MO 90 m11 := mem_run lk0_ok r11
theorem k12 : MO 90 m12 := mem_run lk0_ok r12
theorem k13 : MO 90 m13 := mem_run lk0_ok r13
theorem k14 : MO 150 m14 := mem_run lk0_ok r14
theorem k15 : MO 85 m15 := mem_run lk0_ok r15
theorem k16 : MO 150 m16 := mem_run lk0_ok r16
theorem k17 : MO 96 m17 := mem_run lk0_ok r17
theorem k18 : MO 190 m18 := mem_run lk0_ok r18
theorem k19 : MO 190 m19 := mem_run lk0_ok r19
theorem k20 : MO 190 m20 := mem_run lk0_ok r20
theorem k21 : MO 190 m21 := mem_run lk0_ok r21
theorem k22 : MO 3 m22 := mem_run lk0_ok r22
theorem k23 : MO 61 m23 := mem_run lk0_ok r23
theorem k24 : MO 61 m24 := mem_run lk0_ok r24
theorem k25 : MO 61 m25 := mem_run lk0_ok r25
theorem k26 : MO 61 m26 := mem_run lk0_ok r26
theorem k27 : MO 61 m27 := mem_run lk0_ok r27
theorem k28 : MO 61 m28 := mem_run lk0_ok r28
theorem k29 : MO 123 m29 := mem_run lk0_ok r29
theorem k30 : MO 123 m30 := mem_run lk0_ok r30
theorem k31 : MO 61 m31 := mem_run lk0_ok r31
theorem k32 : MO 61 m32 := mem_run lk0_ok r32
theorem k33 : MO 61 m33 := mem_run lk0_ok r33
theorem k34 : MO 61 m34 := mem_run lk0_ok r34
theorem k35 : MO 107 m35 := mem_run lk0_ok r35
theorem k36 : MO 123 m36 := mem_run lk0_ok r36
theorem k37 : MO 123 m37 := mem_run lk0_ok r37
theorem k38 : MO 123 m38 := mem_run lk0_ok r38
theorem k39 : MO 123 m39 := mem_run lk0_ok r39
theorem k40 : MO 123 m40 := mem_run lk0_ok r40
theorem k41 : MO 123 m41 := mem_run lk0_ok r41
theorem k42 : MO 123 m42 := mem_run lk0_ok r42
theorem k43 : MO 123 m43 := mem_run lk0_ok r43
theorem k44 : MO 123 m44 := mem_run lk0_ok r44
theorem k45 : MO 124 m45 := mem_run lk0_ok r45
theorem k46 : MO 61 m46 := mem_run lk0_ok r46
theorem k47 : MO 61 m47 := mem_run lk0_ok r47
theorem k48 : MO 61 m48 := mem_run lk0_ok r48
theorem k49 : MO 61 m49 := mem_run lk0_ok r49
theorem k50 : MO 61 m50 := mem_run lk0_ok r50
theorem k51 : MO 61 m51 := mem_run lk0_ok r51
theorem k52 : MO 61 m52 := mem_run lk0_ok r52
theorem k53 : MO 61 m53 := mem_run lk0_ok r53
theorem k54 : MO 61 m54 := mem_run lk0_ok r54
theorem k55 : MO 61 m55 := mem_run lk0_ok r55
theorem k56 : MO 61 m56 := mem_run lk0_ok r56
theorem k57 : MO 61 m57 := mem_run lk0_ok r57
theorem k58 : MO 165 m58 := mem_run lk0_ok r58
theorem k59 : MO 165 m59 := mem_run lk0_ok r59
theorem k60 : MO 165 m60 := mem_run lk0_ok r60
theorem k61 : MO 165 m61 := mem_run lk0_ok r61
theorem k62 : MO 165 m62 := mem_run lk0_ok r62
theorem k63 : MO 165 m63 := mem_run lk0_ok r63
theorem k64 : MO 165 m64 := mem_run lk0_ok r64
theorem k65 : MO 165 m65 := mem_run lk0_ok r65
theorem k66 : MO 165 m66 := mem_run lk0_ok r66
theorem k67 : MO 165 m67 := mem_run lk0_ok r67
theorem k68 : MO 165 m68 := mem_run lk0_ok r68
theorem k69 : MO 165 m69 := mem_run lk0_ok r69
theorem k70 : MO 165 m70 := mem_run lk0_ok r70
theorem k71 : MO 165 m71 := mem_run lk0_ok r71
theorem k72 : MO 165 m72 := mem_run lk0_ok r72
theorem k73 : MO 165 m73 := mem_run lk0_ok r73
theorem k74 : MO 90 m74 := mem_run lk0_ok r74
theorem k75 : MO 96 m75 := mem_run lk0_ok r75
theorem k76 : MO 107 m76 := mem_run lk0_ok r76
theorem k77 : MO 123 m77 := mem_run lk0_ok r77
theorem k78 : MO 124 m78 := mem_run lk0_ok r78
theorem k79 : MO 66 m79 := mem_run lk0_ok r79
theorem k80 : MO 66 m80 := mem_run lk0_ok r80
theorem k81 : MO 61 m81 := mem_run lk0_ok r81
theorem k82 : MO 61 m82 := mem_run lk0_ok r82
theorem k83 : MO 61 m83 := mem_run lk0_ok r83
theorem k84 : MO 61 m84 := mem_run lk0_ok r84
theorem k85 : MO 61 m85 := mem_run lk0_ok r85
theorem k86 : MO 61 m86 := mem_run lk0_ok r86
theorem k87 : MO 61 m87 := mem_run lk0_ok r87
theorem k88 : MO 61 m88 := mem_run lk0_ok r88
theorem ol3_1 : ∀ x ∈ l3_1, MO 3 x := mc k22 (fun _ h => by cases h)
theorem ol61_1 : ∀ x ∈ l61_1, MO 61 x := mc k23 (mc k24 (mc k25 (mc k26 (mc k27 (mc k28 (mc k31 (mc k32 (mc k33 (mc k34 (mc k46 (mc k47 (mc k48 (mc k49 (mc k50 (mc k51 (mc k52 (mc k53 (mc k54 (mc k55 (mc k56 (mc k57 (mc k81 (mc k82 (mc k83 (mc k84 (mc k85 (mc k86 (mc k87 (mc k88 (fun _ h => by cases h))))))))))))))))))))))))))))))
theorem ol66_1 : ∀ x ∈ l66_1, MO 66 x := mc k79 (mc k80 (fun _ h => by cases h))
theorem ol85_1 : ∀ x ∈ l85_1, MO 85 x := mc k15 (fun _ h => by cases h)
theorem ol90_1 : ∀ x ∈ l90_1, MO 90 x := mc k11 (mc k12 (mc k13 (mc k74 (fun _ h => by cases h))))
theorem ol96_1 : ∀ x ∈ l96_1, MO 96 x := mc k17 (mc k75 (fun _ h => by cases h))
theorem ol107_1 : ∀ x ∈ l107_1, MO 107 x := mc k35 (mc k76 (fun _ h => by cases h))
theorem ol123_1 : ∀ x ∈ l123_1, MO 123 x := mc k29 (mc k30 (mc k36 (mc k37 (mc k38 (mc k39 (mc k40 (mc k41 (mc k42 (mc k43 (mc k44 (mc k77 (fun _ h => by cases h))))))))))))
theorem ol124_1 : ∀ x ∈ l124_1, MO 124 x := mc k45 (mc k78 (fun _ h => by cases h))
theorem ol150_1 : ∀ x ∈ l150_1, MO 150 x := mc k14 (mc k16 (fun _ h => by cases h))
theorem ol165_1 : ∀ x ∈ l165_1, MO 165 x := mc k0 (mc k1 (mc k2 (mc k3 (mc k4 (mc k5 (mc k6 (mc k7 (mc k8 (mc k9 (mc k10 (mc k58 (mc k59 (mc k60 (mc k61 (mc k62 (mc k63 (mc k64 (mc k65 (mc k66 (mc k67 (mc k68 (mc k69 (mc k70 (mc k71 (mc k72 (mc k73 (fun _ h => by cases h)))))))))))))))))))))))))))
theorem ol190_1 : ∀ x ∈ l190_1, MO 190 x := mc k18 (mc k19 (mc k20 (mc k21 (fun _ h => by cases h))))
theorem lk1_ok : ∀ f, ZEok (fun f => afs[f]?) f (lk1 f) := (nats_cons (memZ_ok (f := 3) rfl ol3_1) (nats_cons (memZ_ok (f := 61) rfl ol61_1) (nats_cons (memZ_ok (f := 66) rfl ol66_1) (nats_cons (memZ_ok (f := 85) rfl ol85_1) (nats_cons (memZ_ok (f := 90) rfl ol90_1) (nats_cons (memZ_ok (f := 96) rfl ol96_1) (nats_cons (memZ_ok (f := 107) rfl ol107_1) (nats_cons (memZ_ok (f := 123) rfl ol123_1) (nats_cons (memZ_ok (f := 124) rfl ol124_1) (nats_cons (memZ_ok (f := 150) rfl ol150_1) (nats_cons (memZ_ok (f := 165) rfl ol165_1) (nats_cons (memZ_ok (f := 190) rfl ol190_1) (nats_nil look)))))))))))))
theorem k89 : MO 65 m89 := mem_run lk1_ok r89
theorem k90 : MO 65 m90 := mem_run lk1_ok r90
theorem k91 : MO 66 m91 := mem_run lk1_ok r91
theorem k92 : MO 66 m92 := mem_run lk1_ok r92
theorem k93 : MO 66 m93 := mem_run lk1_ok r93
theorem k94 : MO 66 m94 := mem_run lk1_ok r94
theorem k95 : MO 66 m95 := mem_run lk1_ok r95
theorem k96 : MO 65 m96 := mem_run lk1_ok r96
theorem k97 : MO 66 m97 := mem_run lk1_ok r97
theorem k98 : MO 66 m98 := mem_run lk1_ok r98
theorem k99 : MO 66 m99 := mem_run lk1_ok r99
theorem k100 : MO 66 m100 := mem_run lk1_ok r100
theorem k101 : MO 66 m101 := mem_run lk1_ok r101
theorem k102 : MO 130 m102 := mem_run lk1_ok r102
theorem k103 : MO 136 m103 := mem_run lk1_ok r103
theorem k104 : MO 65 m104 := mem_run lk1_ok r104
theorem k105 : MO 65 m105 := mem_run lk1_ok r105
theorem k106 : MO 66 m106 := mem_run lk1_ok r106
theorem k107 : MO 66 m107 := mem_run lk1_ok r107
theorem k108 : MO 66 m108 := mem_run lk1_ok r108
theorem k109 : MO 66 m109 := mem_run lk1_ok r109
theorem k110 : MO 66 m110 := mem_run lk1_ok r110
theorem k111 : MO 66 m111 := mem_run lk1_ok r111
theorem k112 : MO 66 m112 := mem_run lk1_ok r112
theorem k113 : MO 66 m113 := mem_run lk1_ok r113
theorem k114 : MO 66 m114 := mem_run lk1_ok r114
theorem k115 : MO 66 m115 := mem_run lk1_ok r115
theorem k116 : MO 66 m116 := mem_run lk1_ok r116
theorem k117 : MO 66 m117 := mem_run lk1_ok r117
theorem k118 : MO 136 m118 := mem_run lk1_ok r118
theorem k119 : MO 65 m119 := mem_run lk1_ok r119
theorem k120 : MO 66 m120 := mem_run lk1_ok r120
theorem k121 : MO 66 m121 := mem_run lk1_ok r121
theorem k122 : MO 66 m122 := mem_run lk1_ok r122
theorem k123 : MO 66 m123 := mem_run lk1_ok r123
theorem k124 : MO 66 m124 := mem_run lk1_ok r124
theorem k125 : MO 66 m125 := mem_run lk1_ok r125
theorem k126 : MO 66 m126 := mem_run lk1_ok r126
theorem k127 : MO 66 m127 := mem_run lk1_ok r127
theorem k128 : MO 66 m128 := mem_run lk1_ok r128
theorem k129 : MO 66 m129 := mem_run lk1_ok r129
theorem k130 : MO 66 m130 := mem_run lk1_ok r130
theorem k131 : MO 66 m131 := mem_run lk1_ok r131
theorem k132 : MO 66 m132 := mem_run lk1_ok r132
theorem ol65_2 : ∀ x ∈ l65_2, MO 65 x := mc k89 (mc k90 (mc k96 (mc k104 (mc k105 (mc k119 (fun _ h => by cases h))))))
theorem ol66_2 : ∀ x ∈ l66_2, MO 66 x := mc k91 (mc k92 (mc k93 (mc k94 (mc k95 (mc k97 (mc k98 (mc k99 (mc k100 (mc k101 (mc k106 (mc k107 (mc k108 (mc k109 (mc k110 (mc k111 (mc k112 (mc k113 (mc k114 (mc k115 (mc k116 (mc k117 (mc k120 (mc k121 (mc k122 (mc k123 (mc k124 (mc k125 (mc k126 (mc k127 (mc k128 (mc k129 (mc k130 (mc k131 (mc k132 ol66_1))))))))))))))))))))))))))))))))))
theorem ol130_2 : ∀ x ∈ l130_2, MO 130 x := mc k102 (fun _ h => by cases h)
theorem ol136_2 : ∀ x ∈ l136_2, MO 136 x := mc k103 (mc k118 (fun _ h => by cases h))
theorem lk2_ok : ∀ f, ZEok (fun f => afs[f]?) f (lk2 f) := (nats_cons (memZ_ok (f := 3) rfl ol3_1) (nats_cons (memZ_ok (f := 61) rfl ol61_1) (nats_cons (memZ_ok (f := 65) rfl ol65_2) (nats_cons (memZ_ok (f := 66) rfl ol66_2) (nats_cons (memZ_ok (f := 85) rfl ol85_1) (nats_cons (memZ_ok (f := 90) rfl ol90_1) (nats_cons (memZ_ok (f := 96) rfl ol96_1) (nats_cons (memZ_ok (f := 107) rfl ol107_1) (nats_cons (memZ_ok (f := 123) rfl ol123_1) (nats_cons (memZ_ok (f := 124) rfl ol124_1) (nats_cons (memZ_ok (f := 130) rfl ol130_2) (nats_cons (memZ_ok (f := 136) rfl ol136_2) (nats_cons (memZ_ok (f := 150) rfl ol150_1) (nats_cons (memZ_ok (f := 165) rfl ol165_1) (nats_cons (memZ_ok (f := 190) rfl ol190_1) (nats_nil look))))))))))))))))
theorem k133 : MO 106 m133 := mem_run lk2_ok r133
theorem k134 : MO 106 m134 := mem_run lk2_ok r134
theorem k135 : MO 106 m135 := mem_run lk2_ok r135
theorem k136 : MO 108 m136 := mem_run lk2_ok r136
theorem k137 : MO 137 m137 := mem_run lk2_ok r137
theorem k138 : MO 137 m138 := mem_run lk2_ok r138
theorem ol106_3 : ∀ x ∈ l106_3, MO 106 x := mc k133 (mc k134 (mc k135 (fun _ h => by cases h)))
theorem ol108_3 : ∀ x ∈ l108_3, MO 108 x := mc k136 (fun _ h => by cases h)
theorem ol137_3 : ∀ x ∈ l137_3, MO 137 x := mc k137 (mc k138 (fun _ h => by cases h))
theorem lk3_ok : ∀ f, ZEok (fun f => afs[f]?) f (lk3 f) := (nats_cons (memZ_ok (f := 3) rfl ol3_1) (nats_cons (memZ_ok (f := 61) rfl ol61_1) (nats_cons (memZ_ok (f := 65) rfl ol65_2) (nats_cons (memZ_ok (f := 66) rfl ol66_2) (nats_cons (memZ_ok (f := 85) rfl ol85_1) (nats_cons (memZ_ok (f := 90) rfl ol90_1) (nats_cons (memZ_ok (f := 96) rfl ol96_1) (nats_cons (memZ_ok (f := 106) rfl ol106_3) (nats_cons (memZ_ok (f := 107) rfl ol107_1) (nats_cons (memZ_ok (f := 108) rfl ol108_3) (nats_cons (memZ_ok (f := 123) rfl ol123_1) (nats_cons (memZ_ok (f := 124) rfl ol124_1) (nats_cons (memZ_ok (f := 130) rfl ol130_2) (nats_cons (memZ_ok (f := 136) rfl ol136_2) (nats_cons (memZ_ok (f := 137) rfl ol137_3) (nats_cons (memZ_ok (f := 150) rfl ol150_1) (nats_cons (memZ_ok (f := 165) rfl ol165_1) (nats_cons (memZ_ok (f := 190) rfl ol190_1) (nats_nil look)))))))))))))))))))
theorem e0_ok : MO 108 e0 := mem_run lk3_ok rE
theorem lkS_ok : ∀ f, ZEok (fun f => afs[f]?) f (lkS f) := (nats_cons (memZ_ok (f := 3) rfl ol3_1) (nats_cons (memZ_ok (f := 61) rfl ol61_1) (nats_cons (memZ_ok (f := 65) rfl ol65_2) (nats_cons (memZ_ok (f := 66) rfl ol66_2) (nats_cons (memZ_ok (f := 85) rfl ol85_1) (nats_cons (memZ_ok (f := 90) rfl ol90_1) (nats_cons (memZ_ok (f := 96) rfl ol96_1) (nats_cons (memZ_ok (f := 106) rfl ol106_3) (nats_cons (memZ_ok (f := 107) rfl ol107_1) (nats_cons (memZ_ok (f := 108) rfl (mc e0_ok ol108_3)) (nats_cons (memZ_ok (f := 123) rfl ol123_1) (nats_cons (memZ_ok (f := 124) rfl ol124_1) (nats_cons (memZ_ok (f := 130) rfl ol130_2) (nats_cons (memZ_ok (f := 136) rfl ol136_2) (nats_cons (memZ_ok (f := 137) rfl ol137_3) (nats_cons (memZ_ok (f := 150) rfl ol150_1) (nats_cons (memZ_ok (f := 165) rfl ol165_1) (nats_cons (memZ_ok (f := 190) rfl ol190_1) (nats_nil look)))))))))))))))))))
theorem k139 : MO 197 m139 := mem_run lk3_ok r139
theorem k140 : MO 197 m140 := mem_run lk3_ok r140
theorem k141 : MO 197 m141 := mem_run lk3_ok r141
theorem k142 : MO 106 m142 := mem_run lk3_ok r142
theorem k143 : MO 106 m143 := mem_run lkS_ok r143
theorem ol106_4 : ∀ x ∈ l106_4, MO 106 x := mc k142 (mc k143 ol106_3)
theorem ol197_4 : ∀ x ∈ l197_4, MO 197 x := mc k139 (mc k140 (mc k141 (fun _ h => by cases h)))
theorem lk4_ok : ∀ f, ZEok (fun f => afs[f]?) f (lk4 f) := (nats_cons (memZ_ok (f := 3) rfl ol3_1) (nats_cons (memZ_ok (f := 61) rfl ol61_1) (nats_cons (memZ_ok (f := 65) rfl ol65_2) (nats_cons (memZ_ok (f := 66) rfl ol66_2) (nats_cons (memZ_ok (f := 85) rfl ol85_1) (nats_cons (memZ_ok (f := 90) rfl ol90_1) (nats_cons (memZ_ok (f := 96) rfl ol96_1) (nats_cons (memZ_ok (f := 106) rfl ol106_4) (nats_cons (memZ_ok (f := 107) rfl ol107_1) (nats_cons (memZ_ok (f := 108) rfl ol108_3) (nats_cons (memZ_ok (f := 123) rfl ol123_1) (nats_cons (memZ_ok (f := 124) rfl ol124_1) (nats_cons (memZ_ok (f := 130) rfl ol130_2) (nats_cons (memZ_ok (f := 136) rfl ol136_2) (nats_cons (memZ_ok (f := 137) rfl ol137_3) (nats_cons (memZ_ok (f := 150) rfl ol150_1) (nats_cons (memZ_ok (f := 165) rfl ol165_1) (nats_cons (memZ_ok (f := 190) rfl ol190_1) (nats_cons (memZ_ok (f := 197) rfl ol197_4) (nats_nil look))))))))))))))))))))
theorem k144 : MO 197 m144 := mem_run lk4_ok r144
theorem k145 : MO 197 m145 := mem_run lk4_ok r145
theorem ol197_5 : ∀ x ∈ l197_5, MO 197 x := mc k144 (mc k145 ol197_4)
theorem lk5_ok : ∀ f, ZEok (fun f => afs[f]?) f (lk5 f) := (nats_cons (memZ_ok (f := 3) rfl ol3_1) (nats_cons (memZ_ok (f := 61) rfl ol61_1) (nats_cons (memZ_ok (f := 65) rfl ol65_2) (nats_cons (memZ_ok (f := 66) rfl ol66_2) (nats_cons (memZ_ok (f := 85) rfl ol85_1) (nats_cons (memZ_ok (f := 90) rfl ol90_1) (nats_cons (memZ_ok (f := 96) rfl ol96_1) (nats_cons (memZ_ok (f := 106) rfl ol106_4) (nats_cons (memZ_ok (f := 107) rfl ol107_1) (nats_cons (memZ_ok (f := 108) rfl ol108_3) (nats_cons (memZ_ok (f := 123) rfl ol123_1) (nats_cons (memZ_ok (f := 124) rfl ol124_1) (nats_cons (memZ_ok (f := 130) rfl ol130_2) (nats_cons (memZ_ok (f := 136) rfl ol136_2) (nats_cons (memZ_ok (f := 137) rfl ol137_3) (nats_cons (memZ_ok (f := 150) rfl ol150_1) (nats_cons (memZ_ok (f := 165) rfl ol165_1) (nats_cons (memZ_ok (f := 190) rfl ol190_1) (nats_cons (memZ_ok (f := 197) rfl ol197_5) (nats_nil look))))))))))))))))))))
theorem begunIs : evC (fun f => afs[f]?) 191 [] heap0 = some (.ret (.bool true) heap0) := by
  obtain ⟨H, h⟩ := tru_ret begunRun
  have h2 := runZ_ret lk5_ok (w := .nil) (H := ZH.none) trivial h
  have h3 := pure_ret (af := a191) rfl rfl h2
  rw [h3] at h2
  exact h2
theorem beg_ok : ZEok (fun f => afs[f]?) 191 onceZ := once_ok begunIs
theorem lkB_ok : ∀ f, ZEok (fun f => afs[f]?) f (lkB f) := (nats_cons beg_ok (nats_cons (memZ_ok (f := 3) rfl ol3_1) (nats_cons (memZ_ok (f := 61) rfl ol61_1) (nats_cons (memZ_ok (f := 65) rfl ol65_2) (nats_cons (memZ_ok (f := 66) rfl ol66_2) (nats_cons (memZ_ok (f := 85) rfl ol85_1) (nats_cons (memZ_ok (f := 90) rfl ol90_1) (nats_cons (memZ_ok (f := 96) rfl ol96_1) (nats_cons (memZ_ok (f := 106) rfl ol106_4) (nats_cons (memZ_ok (f := 107) rfl ol107_1) (nats_cons (memZ_ok (f := 108) rfl ol108_3) (nats_cons (memZ_ok (f := 123) rfl ol123_1) (nats_cons (memZ_ok (f := 124) rfl ol124_1) (nats_cons (memZ_ok (f := 130) rfl ol130_2) (nats_cons (memZ_ok (f := 136) rfl ol136_2) (nats_cons (memZ_ok (f := 137) rfl ol137_3) (nats_cons (memZ_ok (f := 150) rfl ol150_1) (nats_cons (memZ_ok (f := 165) rfl ol165_1) (nats_cons (memZ_ok (f := 190) rfl ol190_1) (nats_cons (memZ_ok (f := 197) rfl ol197_5) (nats_nil look)))))))))))))))))))))
theorem cg105 (a : Nat) (ha : a < 9223372036854775808) (kind : IntKind) (H : Heap) (v : AV) (H' : Heap) (h : Ev 105 [.int kind ((a % 5 : Nat) : Int)] H = some (.ret v H')) : Ev 105 [.int kind (a : Int)] H = some (.ret v H') :=
  evC_cg (D := [0, 6, 7]) (M := [5]) (F := []) ⟨⟨wrap_small (by omega), wrap_small (by omega)⟩, one1 ⟨by decide, tmod_cast a 5⟩, fun f hf => by cases hf⟩ (af := a105) rfl (by kernel_rfl) (by kernel_rfl) (p := 0) (k := kind) rfl rfl (fun s hs => by simp at hs; simp only [List.length_cons, List.length_nil]; omega) h
theorem cg197 (a : Nat) (ha : a < 9223372036854775808) (kind : IntKind) (H : Heap) (v : AV) (H' : Heap) (h : Ev 197 [.int kind ((a % 5 : Nat) : Int)] H = some (.ret v H')) : Ev 197 [.int kind (a : Int)] H = some (.ret v H') :=
  evC_cg (D := [0, 7]) (M := []) (F := [105]) ⟨⟨wrap_small (by omega), wrap_small (by omega)⟩, (fun m hm => by cases hm), one1 (cg105 a ha)⟩ (af := a197) rfl (by kernel_rfl) (by kernel_rfl) (p := 0) (k := kind) rfl rfl (fun s hs => by simp at hs; simp only [List.length_cons, List.length_nil]; omega) h
theorem run0 (n : Nat) (hn : n < 3) : (fun b : Nat => allN (fun c => tru (callZ lkB 100000 198 (.one (.u 0 0) (.one (.u 0 b) (.one (.u 0 c) .nil))) ZH.none)) 3) n = true := by
  match n, hn with
  | 0, _ => exact run0_0
  | 1, _ => exact run0_1
  | 2, _ => exact run0_2
  | n + 3, h => exact absurd h (by omega)
theorem all0 (a b c : Nat) (ha : a < 256) (hb : b < 256) (hc : c < 256) (ea : a % 5 = 0)  : ∃ H', evC (fun f => afs[f]?) 198 [.int .u8 (a : Int), .int .u8 (b : Int), .int .u8 (c : Int)] heap0 = some (.ret (.bool true) H') := by
  have rb := run0 (b % 3) (Nat.mod_lt _ (by decide))
  have rc := allN_ok (rb) (c % 3) (Nat.mod_lt _ (by decide))
  obtain ⟨Hr, h0⟩ := tru_ret (rc)
  have h0 := runZ_ret lkB_ok (w := .one (.u 0 0) (.one (.u 0 (b % 3)) (.one (.u 0 (c % 3)) .nil))) (H := ZH.none) trivial h0
  have g0 : Ev 198 [.int .u8 ((0 : Nat) : Int), .int .u8 ((b % 3 : Nat) : Int), .int .u8 ((c % 3 : Nat) : Int)] heap0 = some (.ret (.bool true) Hr.heap) := h0
  have g0 : Ev 198 [.int .u8 ((a % 5 : Nat) : Int), .int .u8 ((b % 3 : Nat) : Int), .int .u8 ((c % 3 : Nat) : Int)] heap0 = some (.ret (.bool true) Hr.heap) := by rw [ea]; exact g0
  have g1 : Ev 198 [.int .u8 (a : Int), .int .u8 ((b % 3 : Nat) : Int), .int .u8 ((c % 3 : Nat) : Int)] heap0 = some (.ret (.bool true) Hr.heap) := evC_cg (D := [0, 28, 41]) (M := []) (F := [197, 105]) (vs := [.int .u8 ((a % 5 : Nat) : Int), .int .u8 ((b % 3 : Nat) : Int), .int .u8 ((c % 3 : Nat) : Int)]) ⟨⟨wrap_small (by omega), wrap_small (by omega)⟩, (fun m hm => by cases hm), fun f hf => by simp only [List.mem_cons, List.not_mem_nil, or_false] at hf; rcases hf with rfl | rfl <;> first | exact cg197 a (by omega) | exact cg105 a (by omega)⟩ (af := a198) rfl (by kernel_rfl) (by kernel_rfl) (p := 0) (k := .u8) (b := (a : Int)) rfl rfl (fun s hs => by simp at hs; simp only [List.length_cons, List.length_nil]; omega) g0
  have g2 : Ev 198 [.int .u8 (a : Int), .int .u8 (b : Int), .int .u8 ((c % 3 : Nat) : Int)] heap0 = some (.ret (.bool true) Hr.heap) := evC_cg (D := [1, 33, 34]) (M := [3]) (F := []) (vs := [.int .u8 (a : Int), .int .u8 ((b % 3 : Nat) : Int), .int .u8 ((c % 3 : Nat) : Int)]) ⟨⟨wrap_small (by omega), wrap_small (by omega)⟩, one1 ⟨by decide, tmod_cast b 3⟩, (fun f hf => by cases hf)⟩ (af := a198) rfl (by kernel_rfl) (by kernel_rfl) (p := 1) (k := .u8) (b := (b : Int)) rfl rfl (fun s hs => by simp at hs; simp only [List.length_cons, List.length_nil]; omega) g1
  have g3 : Ev 198 [.int .u8 (a : Int), .int .u8 (b : Int), .int .u8 (c : Int)] heap0 = some (.ret (.bool true) Hr.heap) := evC_cg (D := [2, 37, 38]) (M := [3]) (F := []) (vs := [.int .u8 (a : Int), .int .u8 (b : Int), .int .u8 ((c % 3 : Nat) : Int)]) ⟨⟨wrap_small (by omega), wrap_small (by omega)⟩, one1 ⟨by decide, tmod_cast c 3⟩, (fun f hf => by cases hf)⟩ (af := a198) rfl (by kernel_rfl) (by kernel_rfl) (p := 2) (k := .u8) (b := (c : Int)) rfl rfl (fun s hs => by simp at hs; simp only [List.length_cons, List.length_nil]; omega) g2
  exact ⟨_, g3⟩
theorem run1 (n : Nat) (hn : n < 3) : (fun b : Nat => allN (fun c => tru (callZ lkB 100000 198 (.one (.u 0 1) (.one (.u 0 b) (.one (.u 0 c) .nil))) ZH.none)) 3) n = true := by
  match n, hn with
  | 0, _ => exact run1_0
  | 1, _ => exact run1_1
  | 2, _ => exact run1_2
  | n + 3, h => exact absurd h (by omega)
theorem all1 (a b c : Nat) (ha : a < 256) (hb : b < 256) (hc : c < 256) (ea : a % 5 = 1)  : ∃ H', evC (fun f => afs[f]?) 198 [.int .u8 (a : Int), .int .u8 (b : Int), .int .u8 (c : Int)] heap0 = some (.ret (.bool true) H') := by
  have rb := run1 (b % 3) (Nat.mod_lt _ (by decide))
  have rc := allN_ok (rb) (c % 3) (Nat.mod_lt _ (by decide))
  obtain ⟨Hr, h0⟩ := tru_ret (rc)
  have h0 := runZ_ret lkB_ok (w := .one (.u 0 1) (.one (.u 0 (b % 3)) (.one (.u 0 (c % 3)) .nil))) (H := ZH.none) trivial h0
  have g0 : Ev 198 [.int .u8 ((1 : Nat) : Int), .int .u8 ((b % 3 : Nat) : Int), .int .u8 ((c % 3 : Nat) : Int)] heap0 = some (.ret (.bool true) Hr.heap) := h0
  have g0 : Ev 198 [.int .u8 ((a % 5 : Nat) : Int), .int .u8 ((b % 3 : Nat) : Int), .int .u8 ((c % 3 : Nat) : Int)] heap0 = some (.ret (.bool true) Hr.heap) := by rw [ea]; exact g0
  have g1 : Ev 198 [.int .u8 (a : Int), .int .u8 ((b % 3 : Nat) : Int), .int .u8 ((c % 3 : Nat) : Int)] heap0 = some (.ret (.bool true) Hr.heap) := evC_cg (D := [0, 28, 41]) (M := []) (F := [197, 105]) (vs := [.int .u8 ((a % 5 : Nat) : Int), .int .u8 ((b % 3 : Nat) : Int), .int .u8 ((c % 3 : Nat) : Int)]) ⟨⟨wrap_small (by omega), wrap_small (by omega)⟩, (fun m hm => by cases hm), fun f hf => by simp only [List.mem_cons, List.not_mem_nil, or_false] at hf; rcases hf with rfl | rfl <;> first | exact cg197 a (by omega) | exact cg105 a (by omega)⟩ (af := a198) rfl (by kernel_rfl) (by kernel_rfl) (p := 0) (k := .u8) (b := (a : Int)) rfl rfl (fun s hs => by simp at hs; simp only [List.length_cons, List.length_nil]; omega) g0
  have g2 : Ev 198 [.int .u8 (a : Int), .int .u8 (b : Int), .int .u8 ((c % 3 : Nat) : Int)] heap0 = some (.ret (.bool true) Hr.heap) := evC_cg (D := [1, 33, 34]) (M := [3]) (F := []) (vs := [.int .u8 (a : Int), .int .u8 ((b % 3 : Nat) : Int), .int .u8 ((c % 3 : Nat) : Int)]) ⟨⟨wrap_small (by omega), wrap_small (by omega)⟩, one1 ⟨by decide, tmod_cast b 3⟩, (fun f hf => by cases hf)⟩ (af := a198) rfl (by kernel_rfl) (by kernel_rfl) (p := 1) (k := .u8) (b := (b : Int)) rfl rfl (fun s hs => by simp at hs; simp only [List.length_cons, List.length_nil]; omega) g1
  have g3 : Ev 198 [.int .u8 (a : Int), .int .u8 (b : Int), .int .u8 (c : Int)] heap0 = some (.ret (.bool true) Hr.heap) := evC_cg (D := [2, 37, 38]) (M := [3]) (F := []) (vs := [.int .u8 (a : Int), .int .u8 (b : Int), .int .u8 ((c % 3 : Nat) : Int)]) ⟨⟨wrap_small (by omega), wrap_small (by omega)⟩, one1 ⟨by decide, tmod_cast c 3⟩, (fun f hf => by cases hf)⟩ (af := a198) rfl (by kernel_rfl) (by kernel_rfl) (p := 2) (k := .u8) (b := (c : Int)) rfl rfl (fun s hs => by simp at hs; simp only [List.length_cons, List.length_nil]; omega) g2
  exact ⟨_, g3⟩
theorem run2 (n : Nat) (hn : n < 2) : (fun b : Nat => allN (fun c => tru (callZ lkB 100000 199 (.one (.u 0 2) (.one (.u 0 b) (.one (.u 0 c) .nil))) ZH.none)) 2) n = true := by
  match n, hn with
  | 0, _ => exact run2_0
  | 1, _ => exact run2_1
  | n + 2, h => exact absurd h (by omega)
theorem all2 (a b c : Nat) (ha : a < 256) (hb : b < 256) (hc : c < 256) (ea : a % 5 = 2)  : ∃ H', evC (fun f => afs[f]?) 199 [.int .u8 (a : Int), .int .u8 (b : Int), .int .u8 (c : Int)] heap0 = some (.ret (.bool true) H') := by
  have rb := run2 (b % 2) (Nat.mod_lt _ (by decide))
  have rc := allN_ok (rb) (c % 2) (Nat.mod_lt _ (by decide))
  obtain ⟨Hr, h0⟩ := tru_ret (rc)
  have h0 := runZ_ret lkB_ok (w := .one (.u 0 2) (.one (.u 0 (b % 2)) (.one (.u 0 (c % 2)) .nil))) (H := ZH.none) trivial h0
  have g0 : Ev 199 [.int .u8 ((2 : Nat) : Int), .int .u8 ((b % 2 : Nat) : Int), .int .u8 ((c % 2 : Nat) : Int)] heap0 = some (.ret (.bool true) Hr.heap) := h0
  have g0 : Ev 199 [.int .u8 ((a % 5 : Nat) : Int), .int .u8 ((b % 2 : Nat) : Int), .int .u8 ((c % 2 : Nat) : Int)] heap0 = some (.ret (.bool true) Hr.heap) := by rw [ea]; exact g0
  have g1 : Ev 199 [.int .u8 (a : Int), .int .u8 ((b % 2 : Nat) : Int), .int .u8 ((c % 2 : Nat) : Int)] heap0 = some (.ret (.bool true) Hr.heap) := evC_cg (D := [0, 28, 41]) (M := []) (F := [197, 105]) (vs := [.int .u8 ((a % 5 : Nat) : Int), .int .u8 ((b % 2 : Nat) : Int), .int .u8 ((c % 2 : Nat) : Int)]) ⟨⟨wrap_small (by omega), wrap_small (by omega)⟩, (fun m hm => by cases hm), fun f hf => by simp only [List.mem_cons, List.not_mem_nil, or_false] at hf; rcases hf with rfl | rfl <;> first | exact cg197 a (by omega) | exact cg105 a (by omega)⟩ (af := a199) rfl (by kernel_rfl) (by kernel_rfl) (p := 0) (k := .u8) (b := (a : Int)) rfl rfl (fun s hs => by simp at hs; simp only [List.length_cons, List.length_nil]; omega) g0
  have g2 : Ev 199 [.int .u8 (a : Int), .int .u8 (b : Int), .int .u8 ((c % 2 : Nat) : Int)] heap0 = some (.ret (.bool true) Hr.heap) := evC_cg (D := [1, 33, 34]) (M := [2]) (F := []) (vs := [.int .u8 (a : Int), .int .u8 ((b % 2 : Nat) : Int), .int .u8 ((c % 2 : Nat) : Int)]) ⟨⟨wrap_small (by omega), wrap_small (by omega)⟩, one1 ⟨by decide, tmod_cast b 2⟩, (fun f hf => by cases hf)⟩ (af := a199) rfl (by kernel_rfl) (by kernel_rfl) (p := 1) (k := .u8) (b := (b : Int)) rfl rfl (fun s hs => by simp at hs; simp only [List.length_cons, List.length_nil]; omega) g1
  have g3 : Ev 199 [.int .u8 (a : Int), .int .u8 (b : Int), .int .u8 (c : Int)] heap0 = some (.ret (.bool true) Hr.heap) := evC_cg (D := [2, 37, 38]) (M := [2]) (F := []) (vs := [.int .u8 (a : Int), .int .u8 (b : Int), .int .u8 ((c % 2 : Nat) : Int)]) ⟨⟨wrap_small (by omega), wrap_small (by omega)⟩, one1 ⟨by decide, tmod_cast c 2⟩, (fun f hf => by cases hf)⟩ (af := a199) rfl (by kernel_rfl) (by kernel_rfl) (p := 2) (k := .u8) (b := (c : Int)) rfl rfl (fun s hs => by simp at hs; simp only [List.length_cons, List.length_nil]; omega) g2
  exact ⟨_, g3⟩
theorem run3 (n : Nat) (hn : n < 6) : (fun b : Nat => allN (fun c => tru (callZ lkB 100000 200 (.one (.u 0 3) (.one (.u 0 b) (.one (.u 0 c) .nil))) ZH.none)) 6) n = true := by
  match n, hn with
  | 0, _ => exact run3_0
  | 1, _ => exact run3_1
  | 2, _ => exact run3_2
  | 3, _ => exact run3_3
  | 4, _ => exact run3_4
  | 5, _ => exact run3_5
  | n + 6, h => exact absurd h (by omega)
theorem all3 (a b c : Nat) (ha : a < 256) (hb : b < 256) (hc : c < 256) (ea : a % 5 = 3)  : ∃ H', evC (fun f => afs[f]?) 200 [.int .u8 (a : Int), .int .u8 (b : Int), .int .u8 (c : Int)] heap0 = some (.ret (.bool true) H') := by
  have rb := run3 (b % 6) (Nat.mod_lt _ (by decide))
  have rc := allN_ok (rb) (c % 6) (Nat.mod_lt _ (by decide))
  obtain ⟨Hr, h0⟩ := tru_ret (rc)
  have h0 := runZ_ret lkB_ok (w := .one (.u 0 3) (.one (.u 0 (b % 6)) (.one (.u 0 (c % 6)) .nil))) (H := ZH.none) trivial h0
  have g0 : Ev 200 [.int .u8 ((3 : Nat) : Int), .int .u8 ((b % 6 : Nat) : Int), .int .u8 ((c % 6 : Nat) : Int)] heap0 = some (.ret (.bool true) Hr.heap) := h0
  have g0 : Ev 200 [.int .u8 ((a % 5 : Nat) : Int), .int .u8 ((b % 6 : Nat) : Int), .int .u8 ((c % 6 : Nat) : Int)] heap0 = some (.ret (.bool true) Hr.heap) := by rw [ea]; exact g0
  have g1 : Ev 200 [.int .u8 (a : Int), .int .u8 ((b % 6 : Nat) : Int), .int .u8 ((c % 6 : Nat) : Int)] heap0 = some (.ret (.bool true) Hr.heap) := evC_cg (D := [0, 28, 41]) (M := []) (F := [197, 105]) (vs := [.int .u8 ((a % 5 : Nat) : Int), .int .u8 ((b % 6 : Nat) : Int), .int .u8 ((c % 6 : Nat) : Int)]) ⟨⟨wrap_small (by omega), wrap_small (by omega)⟩, (fun m hm => by cases hm), fun f hf => by simp only [List.mem_cons, List.not_mem_nil, or_false] at hf; rcases hf with rfl | rfl <;> first | exact cg197 a (by omega) | exact cg105 a (by omega)⟩ (af := a200) rfl (by kernel_rfl) (by kernel_rfl) (p := 0) (k := .u8) (b := (a : Int)) rfl rfl (fun s hs => by simp at hs; simp only [List.length_cons, List.length_nil]; omega) g0
  have g2 : Ev 200 [.int .u8 (a : Int), .int .u8 (b : Int), .int .u8 ((c % 6 : Nat) : Int)] heap0 = some (.ret (.bool true) Hr.heap) := evC_cg (D := [1, 33, 34]) (M := [6]) (F := []) (vs := [.int .u8 (a : Int), .int .u8 ((b % 6 : Nat) : Int), .int .u8 ((c % 6 : Nat) : Int)]) ⟨⟨wrap_small (by omega), wrap_small (by omega)⟩, one1 ⟨by decide, tmod_cast b 6⟩, (fun f hf => by cases hf)⟩ (af := a200) rfl (by kernel_rfl) (by kernel_rfl) (p := 1) (k := .u8) (b := (b : Int)) rfl rfl (fun s hs => by simp at hs; simp only [List.length_cons, List.length_nil]; omega) g1
  have g3 : Ev 200 [.int .u8 (a : Int), .int .u8 (b : Int), .int .u8 (c : Int)] heap0 = some (.ret (.bool true) Hr.heap) := evC_cg (D := [2, 37, 38]) (M := [6]) (F := []) (vs := [.int .u8 (a : Int), .int .u8 (b : Int), .int .u8 ((c % 6 : Nat) : Int)]) ⟨⟨wrap_small (by omega), wrap_small (by omega)⟩, one1 ⟨by decide, tmod_cast c 6⟩, (fun f hf => by cases hf)⟩ (af := a200) rfl (by kernel_rfl) (by kernel_rfl) (p := 2) (k := .u8) (b := (c : Int)) rfl rfl (fun s hs => by simp at hs; simp only [List.length_cons, List.length_nil]; omega) g2
  exact ⟨_, g3⟩
theorem run4 (n : Nat) (hn : n < 4) : (fun b : Nat => allN (fun c => tru (callZ lkB 100000 201 (.one (.u 0 4) (.one (.u 0 b) (.one (.u 0 c) .nil))) ZH.none)) 4) n = true := by
  match n, hn with
  | 0, _ => exact run4_0
  | 1, _ => exact run4_1
  | 2, _ => exact run4_2
  | 3, _ => exact run4_3
  | n + 4, h => exact absurd h (by omega)
theorem all4 (a b c : Nat) (ha : a < 256) (hb : b < 256) (hc : c < 256) (ea : a % 5 = 4)  : ∃ H', evC (fun f => afs[f]?) 201 [.int .u8 (a : Int), .int .u8 (b : Int), .int .u8 (c : Int)] heap0 = some (.ret (.bool true) H') := by
  have rb := run4 (b % 4) (Nat.mod_lt _ (by decide))
  have rc := allN_ok (rb) (c % 4) (Nat.mod_lt _ (by decide))
  obtain ⟨Hr, h0⟩ := tru_ret (rc)
  have h0 := runZ_ret lkB_ok (w := .one (.u 0 4) (.one (.u 0 (b % 4)) (.one (.u 0 (c % 4)) .nil))) (H := ZH.none) trivial h0
  have g0 : Ev 201 [.int .u8 ((4 : Nat) : Int), .int .u8 ((b % 4 : Nat) : Int), .int .u8 ((c % 4 : Nat) : Int)] heap0 = some (.ret (.bool true) Hr.heap) := h0
  have g0 : Ev 201 [.int .u8 ((a % 5 : Nat) : Int), .int .u8 ((b % 4 : Nat) : Int), .int .u8 ((c % 4 : Nat) : Int)] heap0 = some (.ret (.bool true) Hr.heap) := by rw [ea]; exact g0
  have g1 : Ev 201 [.int .u8 (a : Int), .int .u8 ((b % 4 : Nat) : Int), .int .u8 ((c % 4 : Nat) : Int)] heap0 = some (.ret (.bool true) Hr.heap) := evC_cg (D := [0, 28, 41]) (M := []) (F := [197, 105]) (vs := [.int .u8 ((a % 5 : Nat) : Int), .int .u8 ((b % 4 : Nat) : Int), .int .u8 ((c % 4 : Nat) : Int)]) ⟨⟨wrap_small (by omega), wrap_small (by omega)⟩, (fun m hm => by cases hm), fun f hf => by simp only [List.mem_cons, List.not_mem_nil, or_false] at hf; rcases hf with rfl | rfl <;> first | exact cg197 a (by omega) | exact cg105 a (by omega)⟩ (af := a201) rfl (by kernel_rfl) (by kernel_rfl) (p := 0) (k := .u8) (b := (a : Int)) rfl rfl (fun s hs => by simp at hs; simp only [List.length_cons, List.length_nil]; omega) g0
  have g2 : Ev 201 [.int .u8 (a : Int), .int .u8 (b : Int), .int .u8 ((c % 4 : Nat) : Int)] heap0 = some (.ret (.bool true) Hr.heap) := evC_cg (D := [1, 33, 34]) (M := [4]) (F := []) (vs := [.int .u8 (a : Int), .int .u8 ((b % 4 : Nat) : Int), .int .u8 ((c % 4 : Nat) : Int)]) ⟨⟨wrap_small (by omega), wrap_small (by omega)⟩, one1 ⟨by decide, tmod_cast b 4⟩, (fun f hf => by cases hf)⟩ (af := a201) rfl (by kernel_rfl) (by kernel_rfl) (p := 1) (k := .u8) (b := (b : Int)) rfl rfl (fun s hs => by simp at hs; simp only [List.length_cons, List.length_nil]; omega) g1
  have g3 : Ev 201 [.int .u8 (a : Int), .int .u8 (b : Int), .int .u8 (c : Int)] heap0 = some (.ret (.bool true) Hr.heap) := evC_cg (D := [2, 37, 38]) (M := [4]) (F := []) (vs := [.int .u8 (a : Int), .int .u8 (b : Int), .int .u8 ((c % 4 : Nat) : Int)]) ⟨⟨wrap_small (by omega), wrap_small (by omega)⟩, one1 ⟨by decide, tmod_cast c 4⟩, (fun f hf => by cases hf)⟩ (af := a201) rfl (by kernel_rfl) (by kernel_rfl) (p := 2) (k := .u8) (b := (c : Int)) rfl rfl (fun s hs => by simp at hs; simp only [List.length_cons, List.length_nil]; omega) g2
  exact ⟨_, g3⟩
end Ey.Gr
namespace Go.Proofs.YtijaafflmbjdgaaGreatDoor.gtextOrder
open Go Go.ChangeShapes Go.WideShapes Go.ChangeAt Go.RowKit
theorem own : ownKnob Tryz.prog.godebug = none := by kernel_rfl
theorem walk (a b c : Nat) (ha : a < 256) (hb : b < 256) (hc : c < 256) (W : World) (hw : ∀ b o v, Ey.Gr.cx.gl b o = some v → W.cell? ⟨b, o, none⟩ = some v ∧ b < W.heap.size) : Calls Tryz.prog 4 #[.int .u8 (a : Int), .int .u8 (b : Int), .int .u8 (c : Int)] W fun e w' => e = .returned (.bool true) ∧ Below W.heap.size W w' := by
  have hsplit : a % 5 = 0 ∨ a % 5 = 1 ∨ a % 5 = 2 ∨ a % 5 = 3 ∨ a % 5 = 4 := by omega
  rcases hsplit with hs | hs | hs | hs | hs
  ·
    obtain ⟨H', h⟩ := Ey.Gr.all0 a b c ha hb hc hs
    exact Ey.args_calls Ey.Gr.known (f := 198) (fid := 4) rfl (vs := [.int .u8 (a : Int), .int .u8 (b : Int), .int .u8 (c : Int)]) rfl (fun g => Ey.vr_ints [(.u8, (a : Int)), (.u8, (b : Int)), (.u8, (c : Int))] g) h W hw
  ·
    obtain ⟨H', h⟩ := Ey.Gr.all1 a b c ha hb hc hs
    exact Ey.args_calls Ey.Gr.known (f := 198) (fid := 4) rfl (vs := [.int .u8 (a : Int), .int .u8 (b : Int), .int .u8 (c : Int)]) rfl (fun g => Ey.vr_ints [(.u8, (a : Int)), (.u8, (b : Int)), (.u8, (c : Int))] g) h W hw
  ·
    obtain ⟨H', h⟩ := Ey.Gr.all2 a b c ha hb hc hs
    exact Ey.args_calls Ey.Gr.known (f := 199) (fid := 4) rfl (vs := [.int .u8 (a : Int), .int .u8 (b : Int), .int .u8 (c : Int)]) rfl (fun g => Ey.vr_ints [(.u8, (a : Int)), (.u8, (b : Int)), (.u8, (c : Int))] g) h W hw
  ·
    obtain ⟨H', h⟩ := Ey.Gr.all3 a b c ha hb hc hs
    exact Ey.args_calls Ey.Gr.known (f := 200) (fid := 4) rfl (vs := [.int .u8 (a : Int), .int .u8 (b : Int), .int .u8 (c : Int)]) rfl (fun g => Ey.vr_ints [(.u8, (a : Int)), (.u8, (b : Int)), (.u8, (c : Int))] g) h W hw
  ·
    obtain ⟨H', h⟩ := Ey.Gr.all4 a b c ha hb hc hs
    exact Ey.args_calls Ey.Gr.known (f := 201) (fid := 4) rfl (vs := [.int .u8 (a : Int), .int .u8 (b : Int), .int .u8 (c : Int)]) rfl (fun g => Ey.vr_ints [(.u8, (a : Int)), (.u8, (b : Int)), (.u8, (c : Int))] g) h W hw
theorem gl_ok {W : World} (hL : laidMetH Tryz.prog Rows.gtextOrderRow.laid W) : ∀ b o v, Ey.Gr.cx.gl b o = some v → W.cell? ⟨b, o, none⟩ = some v ∧ b < W.heap.size := by
  rw [MakeChecks.laidMetH_plain _ _ _ (by kernel_rfl)] at hL
  have t0 : Lib.TabIs Tryz.prog W "math/bits.deBruijn64tab" .u8 [0, 1, 56, 2, 57, 49, 28, 3, 61, 58, 42, 50, 38, 29, 17, 4, 62, 47, 59, 36, 45, 43, 51, 22, 53, 39, 33, 30, 24, 18, 12, 5, 63, 55, 48, 27, 60, 41, 37, 16, 46, 35, 44, 21, 52, 32, 23, 11, 54, 26, 40, 15, 34, 20, 31, 10, 25, 14, 19, 9, 13, 8, 7, 6] := Lib.tabIs_of_head (g := 0) (t := 264) (e := 5) (n := 64) (by kernel_rfl) (by kernel_rfl) Tryz.underlying264 Tryz.underlying5 (by kernel_rfl) (by kernel_rfl) (laidMet.tail hL)
  exact Ey.gl_cons t0 (by kernel_rfl) rfl (Ey.gl_nil W)
noncomputable def start (os : Os) : World := Ey.startWith Tryz.prog 72 [(4, Pinned.utf8FirstZ)] os
theorem start_met (os : Os) (args : Array Value) : laidMetH Tryz.prog Rows.gtextOrderRow.laid (((start os).forCall (fun _ _ => 0) ⟨#[], args, []⟩).memory) :=
  laidMetH_of_parts3 (fuel := 8) (laidMet_of_run' 8 (by kernel_rfl) (by kernel_rfl)) (by kernel_rfl) (by kernel_rfl)
theorem lifted (os : Os) (started : os.Started) (H : Type) (enc : TypeId × Value → H) :
    ReturnsInHanded {} Tryz.checked os 4 .any (fun w args => (Rows.gtextOrderSpec.pre enc Tryz.prog Tryz.f4 [] false w args ∧ laidMetH Tryz.prog Rows.gtextOrderRow.laid w) ∧ sizedMet enc Tryz.prog Tryz.f4 (OpenSpec.ofChange Rows.gtextOrderSpec) false w args)
      (Rows.gtextOrderSpec.post enc Tryz.prog Tryz.f4 false true false false) := by
  refine returnsInHanded_of_change_and (C := Tryz.checked) (X := fun w _ => laidMetH Tryz.prog Rows.gtextOrderRow.laid w) (fun _ _ _ hh h => h.of_heap hh) own started (by kernel_rfl) Tryz.func4
    (ChangeSpec.witness_shaped (enc := enc) (C := Tryz.checked) (os := os) (X := fun w _ => laidMetH Tryz.prog Rows.gtextOrderRow.laid w) false (start os) #[.int .u8 0, .int .u8 0, .int .u8 0] 8 rfl (World.shaped_of_RefB (by kernel_rfl) (by kernel_rfl)) (by kernel_rfl) (by kernel_rfl) (by kernel_rfl) (start_met os _)) ?_
  intro W base args ds gs before hval0 hW _ _ hL _
  have hval : ∀ (j : Nat) t v, Tryz.f4.params[j]? = some t → args[j]? = some v → Value.okWide Tryz.prog W .any base t v := hval0
  have hW' := hW
  obtain ⟨p, q, hA0, hV, rfl, _, _⟩ := hW
  have hA : DataW.TrodAll enc Tryz.prog W 0 (fun _ => true) true Tryz.f4.params.toList args.toList ds p := hA0
  rw [Tryz.params4] at hA hval
  obtain ⟨v0, v1, v2, d0, d1, d2, p0, p1, p2, rfl, rfl, rfl, h0, h1, h2⟩ := trodAll_three hA
  obtain ⟨rfl, rfl⟩ := trodVars_none hV
  obtain ⟨z0, rfl, rfl, rfl, w0⟩ := open_int Tryz.underlying5 (hval 0 5 v0 rfl rfl) h0
  obtain ⟨z1, rfl, rfl, rfl, w1⟩ := open_int Tryz.underlying5 (hval 1 5 v1 rfl rfl) h1
  obtain ⟨z2, rfl, rfl, rfl, w2⟩ := open_int Tryz.underlying5 (hval 2 5 v2 rfl rfl) h2
  clear hA0 hval0
  simp only [List.append_nil] at hW'
  obtain ⟨a, ha, rfl⟩ : ∃ a : Nat, a < 256 ∧ z0 = (a : Int) := by
    have hz : 0 ≤ z0 ∧ z0 ≤ 255 := by simpa [Lit.wf, IntKind.min, IntKind.max, IntKind.signed, IntKind.bits] using w0
    exact ⟨z0.toNat, by omega, by omega⟩
  obtain ⟨b, hb, rfl⟩ : ∃ b : Nat, b < 256 ∧ z1 = (b : Int) := by
    have hz : 0 ≤ z1 ∧ z1 ≤ 255 := by simpa [Lit.wf, IntKind.min, IntKind.max, IntKind.signed, IntKind.bits] using w1
    exact ⟨z1.toNat, by omega, by omega⟩
  obtain ⟨c, hc, rfl⟩ : ∃ c : Nat, c < 256 ∧ z2 = (c : Int) := by
    have hz : 0 ≤ z2 ∧ z2 ≤ 255 := by simpa [Lit.wf, IntKind.min, IntKind.max, IntKind.signed, IntKind.bits] using w2
    exact ⟨z2.toNat, by omega, by omega⟩
  refine (walk a b c ha hb hc W (gl_ok hL)).mono fun e W' ⟨he, hb⟩ => ?_
  subst he
  exact ⟨_, rfl, Ey.post_low (pa := []) (pv := []) hW' (fun _ _ _ => trodAll_mk1 (shut_bool Tryz.underlying4 _)) (fun sp _ => trodAll_mk3 (shut_int Tryz.underlying5 w0) (shut_int Tryz.underlying5 w1) (shut_int Tryz.underlying5 w2)) (fun _ _ => rfl) rfl hb (ok_one (by kernel_rfl) rfl (okWide_bool_mk Tryz.underlying4 _))⟩
theorem over : Rows.GtextOrderSaid :=
  OpenClaim.holds_of_wide 4 Tryz.f4 rfl rfl rfl rfl rfl rfl rfl ⟨rfl, rfl, rfl, rfl, rfl⟩ rfl rfl rfl rfl rfl (by kernel_rfl) Tryz.func4 facts
    (of_decide_eq_true (by kernel_rfl)) (by unfold Func.isWrapper; first | (rw [if_pos (by decide +kernel)]; kernel_rfl) | (rw [if_neg (by decide +kernel)]; exact ⟨rfl, rfl⟩))
    (fun os started H enc _ => lifted os started H enc)
/-- the statement -/
theorem proved : Rows.GtextOrderCardSaid :=
  Claim7.holds_tied_plain_at .later [] [.data, .data, .data, .data, .sentinel, .sentinel, .pinned] true (true, "4b5d017d6b4deb06f52b0149374726bccfbba192e79e338129214ed6dd9d015a") true
    over (fun _ h => by cases h) (by kernel_rfl) (fun _ h => by cases h) gtextOrder_row_tie rfl ⟨rfl, rfl⟩ (by kernel_rfl) rfl
    (fun f fn hf hfn => by
      obtain rfl : f = 4 := Option.some.inj ((show Tryz.prog.funcNamed "eyot/eyotlaw14.GtextOrder" = some 4 by kernel_rfl).symm.trans hf) |>.symm
      obtain rfl : fn = Tryz.f4 := (Option.some.inj (Tryz.func4.symm.trans hfn)).symm
      exact ⟨by kernel_rfl, fun j t ht => by
        rw [Tryz.params4] at ht
        have hm : t ∈ [5, 5, 5] := by simpa using Array.mem_of_getElem? ht
        have hall : ([5, 5, 5].all fun u => !Tryz.prog.wantsStandIn u) = true := by kernel_rfl
        exact (show Tryz.prog.wantsStandIn t = false by simpa using List.all_eq_true.1 hall t hm)⟩)
    (by kernel_rfl)
end Go.Proofs.YtijaafflmbjdgaaGreatDoor.gtextOrder
