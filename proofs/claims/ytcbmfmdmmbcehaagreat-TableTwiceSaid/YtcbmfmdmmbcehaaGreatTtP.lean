/- The statement Rows.TableTwiceSaid, that the law answers true whatever its arguments, is proved, under no condition: the law's functions are held against code of a small language of our own (YtcbmfmdmmbcehaaGreatTtC), whose evaluator the kernel runs at one argument of each remainder. -/
import Derived.Test.YtcbmfmdmmbcehaaGreatTtQ0
import Derived.Test.YtcbmfmdmmbcehaaGreatTtQ1
import Derived.Test.YtcbmfmdmmbcehaaGreatTtQ2
import Derived.Test.YtcbmfmdmmbcehaaGreatTtQ3
import Derived.Test.YtcbmfmdmmbcehaaGreatTtQ4
import Derived.Test.YtcbmfmdmmbcehaaGreatTtQ5
import Derived.Test.YtcbmfmdmmbcehaaGreatTtQ6
import Derived.Test.YtcbmfmdmmbcehaaGreatTtQ7
import Derived.Test.YtcbmfmdmmbcehaaGreatTtQ8
import Derived.Test.YtcbmfmdmmbcehaaGreatTtQ9
import Derived.Test.YtcbmfmdmmbcehaaGreatTtQ10
import Derived.Test.YtcbmfmdmmbcehaaGreatTtF
import Derived.Test.YtcbmfmdmmbcehaaGreatTtCg
import Derived.Test.YtcbmfmdmmbcehaaGreatTtRE
import Derived.Test.YtcbmfmdmmbcehaaGreatTtR0
import Derived.Test.YtcbmfmdmmbcehaaGreatTtR1
import Derived.Test.YtcbmfmdmmbcehaaGreatTtR2
import Derived.Test.YtcbmfmdmmbcehaaGreatTtR3
import Derived.Test.YtcbmfmdmmbcehaaGreatTtR4
import Derived.Test.YtcbmfmdmmbcehaaGreatTtR5
import Derived.Test.YtcbmfmdmmbcehaaGreatTtR6
import Derived.Test.YtcbmfmdmmbcehaaGreatTtR7
import Derived.Test.YtcbmfmdmmbcehaaGreatTtR8
import Derived.Test.YtcbmfmdmmbcehaaGreatTtR9
import Derived.Test.YtcbmfmdmmbcehaaGreatTtR10
import Derived.Test.YtcbmfmdmmbcehaaGreatTtR11
import Derived.Test.YtcbmfmdmmbcehaaGreatTtR12
import Derived.Test.YtcbmfmdmmbcehaaGreatTtR13
import Derived.Test.YtcbmfmdmmbcehaaGreatTtR14
import Derived.Test.YtcbmfmdmmbcehaaGreatTtR15
import Derived.Test.YtcbmfmdmmbcehaaGreatTtR16
import Derived.Test.YtcbmfmdmmbcehaaGreatTtR17
import Derived.Test.YtcbmfmdmmbcehaaGreatTtR18
import Derived.Test.YtcbmfmdmmbcehaaGreatTtR19
import Derived.Test.YtcbmfmdmmbcehaaGreatTtR20
import Derived.Test.YtcbmfmdmmbcehaaGreatTtR21
import Derived.Test.YtcbmfmdmmbcehaaGreatTtR22
import Derived.Test.YtcbmfmdmmbcehaaGreatTtC
import Derived.Test.YtcbmfmdmmbcehaaGreatEyB4
import Derived.ProofKit
import Derived.OpenShut
set_option maxRecDepth 1000000
namespace Ey.Tt
open Go (IntKind)
noncomputable abbrev Ev := evC (fun f => afs[f]?)
theorem one1 {α : Type} {P : α → Prop} {x : α} (h : P x) : ∀ y ∈ [x], P y := fun y hy => by simp only [List.mem_singleton] at hy; subst hy; exact h
abbrev MO (f : Nat) (m : Mem) : Prop := MemOK (fun f => afs[f]?) f m
theorem mc {Φ : Nat → Option AFn} {f : Nat} {m : Mem} {l : List Mem} (h : MemOK Φ f m) (t : ∀ x ∈ l, MemOK Φ f x) : ∀ x ∈ m :: l, MemOK Φ f x := List.forall_mem_cons.2 ⟨h, t⟩
theorem lk0_ok : ∀ f, ZEok (fun f => afs[f]?) f (lk0 f) := (nats_nil look)
theorem m0_ok : MO 2 m0 := mem_run lk0_ok r0
theorem m1_ok : MO 50 m1 := mem_run lk0_ok r1
theorem m2_ok : MO 50 m2 := mem_run lk0_ok r2
theorem m3_ok : MO 50 m3 := mem_run lk0_ok r3
theorem m4_ok : MO 50 m4 := mem_run lk0_ok r4
theorem m5_ok : MO 50 m5 := mem_run lk0_ok r5
theorem m6_ok : MO 50 m6 := mem_run lk0_ok r6
theorem m7_ok : MO 95 m7 := mem_run lk0_ok r7
theorem m8_ok : MO 95 m8 := mem_run lk0_ok r8
theorem m9_ok : MO 50 m9 := mem_run lk0_ok r9
theorem m10_ok : MO 50 m10 := mem_run lk0_ok r10
theorem m11_ok : MO 50 m11 := mem_run lk0_ok r11
theorem m12_ok : MO 50 m12 := mem_run lk0_ok r12
theorem m13_ok : MO 79 m13 := mem_run lk0_ok r13
theorem m14_ok : MO 95 m14 := mem_run lk0_ok r14
theorem m15_ok : MO 95 m15 := mem_run lk0_ok r15
theorem m16_ok : MO 95 m16 := mem_run lk0_ok r16
theorem m17_ok : MO 95 m17 := mem_run lk0_ok r17
theorem m18_ok : MO 95 m18 := mem_run lk0_ok r18
theorem m19_ok : MO 95 m19 := mem_run lk0_ok r19
theorem m20_ok : MO 95 m20 := mem_run lk0_ok r20
theorem m21_ok : MO 95 m21 := mem_run lk0_ok r21
theorem m22_ok : MO 95 m22 := mem_run lk0_ok r22
theorem m23_ok : MO 108 m23 := mem_run lk0_ok r23
theorem m24_ok : MO 50 m24 := mem_run lk0_ok r24
theorem m25_ok : MO 50 m25 := mem_run lk0_ok r25
theorem m26_ok : MO 50 m26 := mem_run lk0_ok r26
theorem m27_ok : MO 50 m27 := mem_run lk0_ok r27
theorem m28_ok : MO 50 m28 := mem_run lk0_ok r28
theorem m29_ok : MO 50 m29 := mem_run lk0_ok r29
theorem m30_ok : MO 50 m30 := mem_run lk0_ok r30
theorem m31_ok : MO 50 m31 := mem_run lk0_ok r31
theorem m32_ok : MO 50 m32 := mem_run lk0_ok r32
theorem m33_ok : MO 50 m33 := mem_run lk0_ok r33
theorem m34_ok : MO 50 m34 := mem_run lk0_ok r34
theorem m35_ok : MO 50 m35 := mem_run lk0_ok r35
theorem m36_ok : MO 152 m36 := mem_run lk0_ok r36
theorem m37_ok : MO 152 m37 := mem_run lk0_ok r37
theorem m38_ok : MO 152 m38 := mem_run lk0_ok r38
theorem m39_ok : MO 152 m39 := mem_run lk0_ok r39
theorem m40_ok : MO 152 m40 := mem_run lk0_ok r40
theorem m41_ok : MO 152 m41 := mem_run lk0_ok r41
theorem m42_ok : MO 152 m42 := mem_run lk0_ok r42
theorem m43_ok : MO 152 m43 := mem_run lk0_ok r43
theorem m44_ok : MO 79 m44 := mem_run lk0_ok r44
theorem m45_ok : MO 95 m45 := mem_run lk0_ok r45
theorem m46_ok : MO 108 m46 := mem_run lk0_ok r46
theorem m47_ok : MO 55 m47 := mem_run lk0_ok r47
theorem m48_ok : MO 55 m48 := mem_run lk0_ok r48
theorem m49_ok : MO 50 m49 := mem_run lk0_ok r49
theorem m50_ok : MO 50 m50 := mem_run lk0_ok r50
theorem m51_ok : MO 50 m51 := mem_run lk0_ok r51
theorem m52_ok : MO 50 m52 := mem_run lk0_ok r52
theorem m53_ok : MO 50 m53 := mem_run lk0_ok r53
theorem m54_ok : MO 50 m54 := mem_run lk0_ok r54
theorem m55_ok : MO 50 m55 := mem_run lk0_ok r55
theorem m56_ok : MO 50 m56 := mem_run lk0_ok r56
theorem ol2_1 : ∀ x ∈ l2_1, MO 2 x := mc m0_ok (fun _ h => by cases h)
theorem ol50_1 : ∀ x ∈ l50_1, MO 50 x := mc m1_ok (mc m2_ok (mc m3_ok (mc m4_ok (mc m5_ok (mc m6_ok (mc m9_ok (mc m10_ok (mc m11_ok (mc m12_ok (mc m24_ok (mc m25_ok (mc m26_ok (mc m27_ok (mc m28_ok (mc m29_ok (mc m30_ok (mc m31_ok (mc m32_ok (mc m33_ok (mc m34_ok (mc m35_ok (mc m49_ok (mc m50_ok (mc m51_ok (mc m52_ok (mc m53_ok (mc m54_ok (mc m55_ok (mc m56_ok (fun _ h => by cases h))))))))))))))))))))))))))))))
theorem ol55_1 : ∀ x ∈ l55_1, MO 55 x := mc m47_ok (mc m48_ok (fun _ h => by cases h))
theorem ol79_1 : ∀ x ∈ l79_1, MO 79 x := mc m13_ok (mc m44_ok (fun _ h => by cases h))
theorem ol95_1 : ∀ x ∈ l95_1, MO 95 x := mc m7_ok (mc m8_ok (mc m14_ok (mc m15_ok (mc m16_ok (mc m17_ok (mc m18_ok (mc m19_ok (mc m20_ok (mc m21_ok (mc m22_ok (mc m45_ok (fun _ h => by cases h))))))))))))
theorem ol108_1 : ∀ x ∈ l108_1, MO 108 x := mc m23_ok (mc m46_ok (fun _ h => by cases h))
theorem ol152_1 : ∀ x ∈ l152_1, MO 152 x := mc m36_ok (mc m37_ok (mc m38_ok (mc m39_ok (mc m40_ok (mc m41_ok (mc m42_ok (mc m43_ok (fun _ h => by cases h))))))))
theorem lk1_ok : ∀ f, ZEok (fun f => afs[f]?) f (lk1 f) := (nats_cons (memZ_ok (f := 2) rfl ol2_1) (nats_cons (memZ_ok (f := 50) rfl ol50_1) (nats_cons (memZ_ok (f := 55) rfl ol55_1) (nats_cons (memZ_ok (f := 79) rfl ol79_1) (nats_cons (memZ_ok (f := 95) rfl ol95_1) (nats_cons (memZ_ok (f := 108) rfl ol108_1) (nats_cons (memZ_ok (f := 152) rfl ol152_1) (nats_nil look))))))))
theorem m57_ok : MO 54 m57 := mem_run lk1_ok r57
theorem m58_ok : MO 54 m58 := mem_run lk1_ok r58
theorem m59_ok : MO 55 m59 := mem_run lk1_ok r59
theorem m60_ok : MO 55 m60 := mem_run lk1_ok r60
theorem m61_ok : MO 55 m61 := mem_run lk1_ok r61
theorem m62_ok : MO 55 m62 := mem_run lk1_ok r62
theorem m63_ok : MO 55 m63 := mem_run lk1_ok r63
theorem m64_ok : MO 54 m64 := mem_run lk1_ok r64
theorem m65_ok : MO 55 m65 := mem_run lk1_ok r65
theorem m66_ok : MO 55 m66 := mem_run lk1_ok r66
theorem m67_ok : MO 55 m67 := mem_run lk1_ok r67
theorem m68_ok : MO 55 m68 := mem_run lk1_ok r68
theorem m69_ok : MO 55 m69 := mem_run lk1_ok r69
theorem m70_ok : MO 102 m70 := mem_run lk1_ok r70
theorem m71_ok : MO 54 m71 := mem_run lk1_ok r71
theorem m72_ok : MO 54 m72 := mem_run lk1_ok r72
theorem m73_ok : MO 55 m73 := mem_run lk1_ok r73
theorem m74_ok : MO 55 m74 := mem_run lk1_ok r74
theorem m75_ok : MO 55 m75 := mem_run lk1_ok r75
theorem m76_ok : MO 55 m76 := mem_run lk1_ok r76
theorem m77_ok : MO 55 m77 := mem_run lk1_ok r77
theorem m78_ok : MO 55 m78 := mem_run lk1_ok r78
theorem m79_ok : MO 55 m79 := mem_run lk1_ok r79
theorem m80_ok : MO 55 m80 := mem_run lk1_ok r80
theorem m81_ok : MO 55 m81 := mem_run lk1_ok r81
theorem m82_ok : MO 55 m82 := mem_run lk1_ok r82
theorem m83_ok : MO 55 m83 := mem_run lk1_ok r83
theorem m84_ok : MO 55 m84 := mem_run lk1_ok r84
theorem m85_ok : MO 54 m85 := mem_run lk1_ok r85
theorem m86_ok : MO 55 m86 := mem_run lk1_ok r86
theorem m87_ok : MO 55 m87 := mem_run lk1_ok r87
theorem m88_ok : MO 55 m88 := mem_run lk1_ok r88
theorem m89_ok : MO 55 m89 := mem_run lk1_ok r89
theorem m90_ok : MO 55 m90 := mem_run lk1_ok r90
theorem m91_ok : MO 55 m91 := mem_run lk1_ok r91
theorem m92_ok : MO 55 m92 := mem_run lk1_ok r92
theorem m93_ok : MO 55 m93 := mem_run lk1_ok r93
theorem m94_ok : MO 55 m94 := mem_run lk1_ok r94
theorem m95_ok : MO 55 m95 := mem_run lk1_ok r95
theorem m96_ok : MO 55 m96 := mem_run lk1_ok r96
theorem m97_ok : MO 55 m97 := mem_run lk1_ok r97
theorem m98_ok : MO 55 m98 := mem_run lk1_ok r98
theorem ol54_2 : ∀ x ∈ l54_2, MO 54 x := mc m57_ok (mc m58_ok (mc m64_ok (mc m71_ok (mc m72_ok (mc m85_ok (fun _ h => by cases h))))))
theorem ol55_2 : ∀ x ∈ l55_2, MO 55 x := mc m59_ok (mc m60_ok (mc m61_ok (mc m62_ok (mc m63_ok (mc m65_ok (mc m66_ok (mc m67_ok (mc m68_ok (mc m69_ok (mc m73_ok (mc m74_ok (mc m75_ok (mc m76_ok (mc m77_ok (mc m78_ok (mc m79_ok (mc m80_ok (mc m81_ok (mc m82_ok (mc m83_ok (mc m84_ok (mc m86_ok (mc m87_ok (mc m88_ok (mc m89_ok (mc m90_ok (mc m91_ok (mc m92_ok (mc m93_ok (mc m94_ok (mc m95_ok (mc m96_ok (mc m97_ok (mc m98_ok ol55_1))))))))))))))))))))))))))))))))))
theorem ol102_2 : ∀ x ∈ l102_2, MO 102 x := mc m70_ok (fun _ h => by cases h)
theorem lk2_ok : ∀ f, ZEok (fun f => afs[f]?) f (lk2 f) := (nats_cons (memZ_ok (f := 2) rfl ol2_1) (nats_cons (memZ_ok (f := 50) rfl ol50_1) (nats_cons (memZ_ok (f := 54) rfl ol54_2) (nats_cons (memZ_ok (f := 55) rfl ol55_2) (nats_cons (memZ_ok (f := 79) rfl ol79_1) (nats_cons (memZ_ok (f := 95) rfl ol95_1) (nats_cons (memZ_ok (f := 102) rfl ol102_2) (nats_cons (memZ_ok (f := 108) rfl ol108_1) (nats_cons (memZ_ok (f := 152) rfl ol152_1) (nats_nil look))))))))))
theorem m99_ok : MO 78 m99 := mem_run lk2_ok r99
theorem m100_ok : MO 78 m100 := mem_run lk2_ok r100
theorem m101_ok : MO 78 m101 := mem_run lk2_ok r101
theorem m102_ok : MO 80 m102 := mem_run lk2_ok r102
theorem m103_ok : MO 109 m103 := mem_run lk2_ok r103
theorem m104_ok : MO 109 m104 := mem_run lk2_ok r104
theorem ol78_3 : ∀ x ∈ l78_3, MO 78 x := mc m99_ok (mc m100_ok (mc m101_ok (fun _ h => by cases h)))
theorem ol80_3 : ∀ x ∈ l80_3, MO 80 x := mc m102_ok (fun _ h => by cases h)
theorem ol109_3 : ∀ x ∈ l109_3, MO 109 x := mc m103_ok (mc m104_ok (fun _ h => by cases h))
theorem lk3_ok : ∀ f, ZEok (fun f => afs[f]?) f (lk3 f) := (nats_cons (memZ_ok (f := 2) rfl ol2_1) (nats_cons (memZ_ok (f := 50) rfl ol50_1) (nats_cons (memZ_ok (f := 54) rfl ol54_2) (nats_cons (memZ_ok (f := 55) rfl ol55_2) (nats_cons (memZ_ok (f := 78) rfl ol78_3) (nats_cons (memZ_ok (f := 79) rfl ol79_1) (nats_cons (memZ_ok (f := 80) rfl ol80_3) (nats_cons (memZ_ok (f := 95) rfl ol95_1) (nats_cons (memZ_ok (f := 102) rfl ol102_2) (nats_cons (memZ_ok (f := 108) rfl ol108_1) (nats_cons (memZ_ok (f := 109) rfl ol109_3) (nats_cons (memZ_ok (f := 152) rfl ol152_1) (nats_nil look)))))))))))))
theorem e0_ok : MO 80 e0 := mem_run lk3_ok rE
theorem lkS_ok : ∀ f, ZEok (fun f => afs[f]?) f (lkS f) := (nats_cons (memZ_ok (f := 2) rfl ol2_1) (nats_cons (memZ_ok (f := 50) rfl ol50_1) (nats_cons (memZ_ok (f := 54) rfl ol54_2) (nats_cons (memZ_ok (f := 55) rfl ol55_2) (nats_cons (memZ_ok (f := 78) rfl ol78_3) (nats_cons (memZ_ok (f := 79) rfl ol79_1) (nats_cons (memZ_ok (f := 80) rfl (mc e0_ok ol80_3)) (nats_cons (memZ_ok (f := 95) rfl ol95_1) (nats_cons (memZ_ok (f := 102) rfl ol102_2) (nats_cons (memZ_ok (f := 108) rfl ol108_1) (nats_cons (memZ_ok (f := 109) rfl ol109_3) (nats_cons (memZ_ok (f := 152) rfl ol152_1) (nats_nil look)))))))))))))
theorem m105_ok : MO 182 m105 := mem_run lk3_ok r105
theorem m106_ok : MO 182 m106 := mem_run lk3_ok r106
theorem m107_ok : MO 182 m107 := mem_run lk3_ok r107
theorem m108_ok : MO 78 m108 := mem_run lk3_ok r108
theorem m109_ok : MO 78 m109 := mem_run lkS_ok r109
theorem ol78_4 : ∀ x ∈ l78_4, MO 78 x := mc m108_ok (mc m109_ok ol78_3)
theorem ol182_4 : ∀ x ∈ l182_4, MO 182 x := mc m105_ok (mc m106_ok (mc m107_ok (fun _ h => by cases h)))
theorem lk4_ok : ∀ f, ZEok (fun f => afs[f]?) f (lk4 f) := (nats_cons (memZ_ok (f := 2) rfl ol2_1) (nats_cons (memZ_ok (f := 50) rfl ol50_1) (nats_cons (memZ_ok (f := 54) rfl ol54_2) (nats_cons (memZ_ok (f := 55) rfl ol55_2) (nats_cons (memZ_ok (f := 78) rfl ol78_4) (nats_cons (memZ_ok (f := 79) rfl ol79_1) (nats_cons (memZ_ok (f := 80) rfl ol80_3) (nats_cons (memZ_ok (f := 95) rfl ol95_1) (nats_cons (memZ_ok (f := 102) rfl ol102_2) (nats_cons (memZ_ok (f := 108) rfl ol108_1) (nats_cons (memZ_ok (f := 109) rfl ol109_3) (nats_cons (memZ_ok (f := 152) rfl ol152_1) (nats_cons (memZ_ok (f := 182) rfl ol182_4) (nats_nil look))))))))))))))
theorem m110_ok : MO 182 m110 := mem_run lk4_ok r110
theorem m111_ok : MO 182 m111 := mem_run lk4_ok r111
theorem ol182_5 : ∀ x ∈ l182_5, MO 182 x := mc m110_ok (mc m111_ok ol182_4)
theorem lk5_ok : ∀ f, ZEok (fun f => afs[f]?) f (lk5 f) := (nats_cons (memZ_ok (f := 2) rfl ol2_1) (nats_cons (memZ_ok (f := 50) rfl ol50_1) (nats_cons (memZ_ok (f := 54) rfl ol54_2) (nats_cons (memZ_ok (f := 55) rfl ol55_2) (nats_cons (memZ_ok (f := 78) rfl ol78_4) (nats_cons (memZ_ok (f := 79) rfl ol79_1) (nats_cons (memZ_ok (f := 80) rfl ol80_3) (nats_cons (memZ_ok (f := 95) rfl ol95_1) (nats_cons (memZ_ok (f := 102) rfl ol102_2) (nats_cons (memZ_ok (f := 108) rfl ol108_1) (nats_cons (memZ_ok (f := 109) rfl ol109_3) (nats_cons (memZ_ok (f := 152) rfl ol152_1) (nats_cons (memZ_ok (f := 182) rfl ol182_5) (nats_nil look))))))))))))))
theorem begunIs : evC (fun f => afs[f]?) 183 [] heap0 = some (.ret (.bool true) heap0) := by
  obtain ⟨H, h⟩ := tru_ret begunRun
  have h2 := runZ_ret lk5_ok (w := .nil) (H := ZH.none) trivial h
  have h3 := pure_ret (af := a183) rfl rfl h2
  rw [h3] at h2
  exact h2
theorem beg_ok : ZEok (fun f => afs[f]?) 183 onceZ := once_ok begunIs
theorem lkB_ok : ∀ f, ZEok (fun f => afs[f]?) f (lkB f) := (nats_cons beg_ok (nats_cons (memZ_ok (f := 2) rfl ol2_1) (nats_cons (memZ_ok (f := 50) rfl ol50_1) (nats_cons (memZ_ok (f := 54) rfl ol54_2) (nats_cons (memZ_ok (f := 55) rfl ol55_2) (nats_cons (memZ_ok (f := 78) rfl ol78_4) (nats_cons (memZ_ok (f := 79) rfl ol79_1) (nats_cons (memZ_ok (f := 80) rfl ol80_3) (nats_cons (memZ_ok (f := 95) rfl ol95_1) (nats_cons (memZ_ok (f := 102) rfl ol102_2) (nats_cons (memZ_ok (f := 108) rfl ol108_1) (nats_cons (memZ_ok (f := 109) rfl ol109_3) (nats_cons (memZ_ok (f := 152) rfl ol152_1) (nats_cons (memZ_ok (f := 182) rfl ol182_5) (nats_nil look)))))))))))))))
theorem cg77 (a : Nat) (ha : a < 9223372036854775808) (kind : IntKind) (H : Heap) (v : AV) (H' : Heap) (h : Ev 77 [.int kind ((a % 5 : Nat) : Int)] H = some (.ret v H')) : Ev 77 [.int kind (a : Int)] H = some (.ret v H') :=
  evC_cg (D := [0, 6, 7]) (M := [5]) (F := []) ⟨⟨wrap_small (by omega), wrap_small (by omega)⟩, one1 ⟨by decide, tmod_cast a 5⟩, fun f hf => by cases hf⟩ (af := a77) rfl (by kernel_rfl) (by kernel_rfl) (p := 0) (k := kind) rfl rfl (fun s hs => by simp at hs; simp only [List.length_cons, List.length_nil]; omega) h
theorem cg182 (a : Nat) (ha : a < 9223372036854775808) (kind : IntKind) (H : Heap) (v : AV) (H' : Heap) (h : Ev 182 [.int kind ((a % 5 : Nat) : Int)] H = some (.ret v H')) : Ev 182 [.int kind (a : Int)] H = some (.ret v H') :=
  evC_cg (D := [0, 7]) (M := []) (F := [77]) ⟨⟨wrap_small (by omega), wrap_small (by omega)⟩, (fun m hm => by cases hm), one1 (cg77 a ha)⟩ (af := a182) rfl (by kernel_rfl) (by kernel_rfl) (p := 0) (k := kind) rfl rfl (fun s hs => by simp at hs; simp only [List.length_cons, List.length_nil]; omega) h
theorem run0 (n : Nat) (hn : n < 3) : (fun b : Nat => tru (callZ lkB 100000 184 (.one (.u 0 0) (.one (.u 0 b) .nil)) ZH.none)) n = true := by
  match n, hn with
  | 0, _ => exact run0_0
  | 1, _ => exact run0_1
  | 2, _ => exact run0_2
  | n + 3, h => exact absurd h (by omega)
theorem all0 (a b : Nat) (ha : a < 256) (hb : b < 256) (ea : a % 5 = 0)  : ∃ H', evC (fun f => afs[f]?) 184 [.int .u8 (a : Int), .int .u8 (b : Int)] heap0 = some (.ret (.bool true) H') := by
  have rb := run0 (b % 3) (Nat.mod_lt _ (by decide))
  obtain ⟨Hr, h0⟩ := tru_ret (rb)
  have h0 := runZ_ret lkB_ok (w := .one (.u 0 0) (.one (.u 0 (b % 3)) .nil)) (H := ZH.none) trivial h0
  have g0 : Ev 184 [.int .u8 ((0 : Nat) : Int), .int .u8 ((b % 3 : Nat) : Int)] heap0 = some (.ret (.bool true) Hr.heap) := h0
  have g0 : Ev 184 [.int .u8 ((a % 5 : Nat) : Int), .int .u8 ((b % 3 : Nat) : Int)] heap0 = some (.ret (.bool true) Hr.heap) := by rw [ea]; exact g0
  have g1 : Ev 184 [.int .u8 (a : Int), .int .u8 ((b % 3 : Nat) : Int)] heap0 = some (.ret (.bool true) Hr.heap) := Cg2.evC_cg (D := [0, 11]) (M := []) (F := [182]) (vs := [.int .u8 ((a % 5 : Nat) : Int), .int .u8 ((b % 3 : Nat) : Int)]) ⟨⟨wrap_small (by omega), wrap_small (by omega)⟩, (fun m hm => by cases hm), one1 (cg182 a (by omega))⟩ (af := a184) rfl (by kernel_rfl) (by kernel_rfl) (p := 0) (k := .u8) (b := (a : Int)) rfl rfl (fun s hs => by simp at hs; simp only [List.length_cons, List.length_nil]; omega) g0
  have g2 : Ev 184 [.int .u8 (a : Int), .int .u8 (b : Int)] heap0 = some (.ret (.bool true) Hr.heap) := Cg2.evC_cg (D := [1, 15, 16]) (M := [3]) (F := []) (vs := [.int .u8 (a : Int), .int .u8 ((b % 3 : Nat) : Int)]) ⟨⟨wrap_small (by omega), wrap_small (by omega)⟩, one1 ⟨by decide, tmod_cast b 3⟩, (fun f hf => by cases hf)⟩ (af := a184) rfl (by kernel_rfl) (by kernel_rfl) (p := 1) (k := .u8) (b := (b : Int)) rfl rfl (fun s hs => by simp at hs; simp only [List.length_cons, List.length_nil]; omega) g1
  exact ⟨_, g2⟩
theorem run1 (n : Nat) (hn : n < 4) : (fun b : Nat => tru (callZ lkB 100000 185 (.one (.u 0 1) (.one (.u 0 b) .nil)) ZH.none)) n = true := by
  match n, hn with
  | 0, _ => exact run1_0
  | 1, _ => exact run1_1
  | 2, _ => exact run1_2
  | 3, _ => exact run1_3
  | n + 4, h => exact absurd h (by omega)
theorem all1 (a b : Nat) (ha : a < 256) (hb : b < 256) (ea : a % 5 = 1)  : ∃ H', evC (fun f => afs[f]?) 185 [.int .u8 (a : Int), .int .u8 (b : Int)] heap0 = some (.ret (.bool true) H') := by
  have rb := run1 (b % 4) (Nat.mod_lt _ (by decide))
  obtain ⟨Hr, h0⟩ := tru_ret (rb)
  have h0 := runZ_ret lkB_ok (w := .one (.u 0 1) (.one (.u 0 (b % 4)) .nil)) (H := ZH.none) trivial h0
  have g0 : Ev 185 [.int .u8 ((1 : Nat) : Int), .int .u8 ((b % 4 : Nat) : Int)] heap0 = some (.ret (.bool true) Hr.heap) := h0
  have g0 : Ev 185 [.int .u8 ((a % 5 : Nat) : Int), .int .u8 ((b % 4 : Nat) : Int)] heap0 = some (.ret (.bool true) Hr.heap) := by rw [ea]; exact g0
  have g1 : Ev 185 [.int .u8 (a : Int), .int .u8 ((b % 4 : Nat) : Int)] heap0 = some (.ret (.bool true) Hr.heap) := Cg2.evC_cg (D := [0, 11]) (M := []) (F := [182]) (vs := [.int .u8 ((a % 5 : Nat) : Int), .int .u8 ((b % 4 : Nat) : Int)]) ⟨⟨wrap_small (by omega), wrap_small (by omega)⟩, (fun m hm => by cases hm), one1 (cg182 a (by omega))⟩ (af := a185) rfl (by kernel_rfl) (by kernel_rfl) (p := 0) (k := .u8) (b := (a : Int)) rfl rfl (fun s hs => by simp at hs; simp only [List.length_cons, List.length_nil]; omega) g0
  have g2 : Ev 185 [.int .u8 (a : Int), .int .u8 (b : Int)] heap0 = some (.ret (.bool true) Hr.heap) := Cg2.evC_cg (D := [1, 15, 16]) (M := [4]) (F := []) (vs := [.int .u8 (a : Int), .int .u8 ((b % 4 : Nat) : Int)]) ⟨⟨wrap_small (by omega), wrap_small (by omega)⟩, one1 ⟨by decide, tmod_cast b 4⟩, (fun f hf => by cases hf)⟩ (af := a185) rfl (by kernel_rfl) (by kernel_rfl) (p := 1) (k := .u8) (b := (b : Int)) rfl rfl (fun s hs => by simp at hs; simp only [List.length_cons, List.length_nil]; omega) g1
  exact ⟨_, g2⟩
theorem run2 (n : Nat) (hn : n < 2) : (fun b : Nat => tru (callZ lkB 100000 186 (.one (.u 0 2) (.one (.u 0 b) .nil)) ZH.none)) n = true := by
  match n, hn with
  | 0, _ => exact run2_0
  | 1, _ => exact run2_1
  | n + 2, h => exact absurd h (by omega)
theorem all2 (a b : Nat) (ha : a < 256) (hb : b < 256) (ea : a % 5 = 2)  : ∃ H', evC (fun f => afs[f]?) 186 [.int .u8 (a : Int), .int .u8 (b : Int)] heap0 = some (.ret (.bool true) H') := by
  have rb := run2 (b % 2) (Nat.mod_lt _ (by decide))
  obtain ⟨Hr, h0⟩ := tru_ret (rb)
  have h0 := runZ_ret lkB_ok (w := .one (.u 0 2) (.one (.u 0 (b % 2)) .nil)) (H := ZH.none) trivial h0
  have g0 : Ev 186 [.int .u8 ((2 : Nat) : Int), .int .u8 ((b % 2 : Nat) : Int)] heap0 = some (.ret (.bool true) Hr.heap) := h0
  have g0 : Ev 186 [.int .u8 ((a % 5 : Nat) : Int), .int .u8 ((b % 2 : Nat) : Int)] heap0 = some (.ret (.bool true) Hr.heap) := by rw [ea]; exact g0
  have g1 : Ev 186 [.int .u8 (a : Int), .int .u8 ((b % 2 : Nat) : Int)] heap0 = some (.ret (.bool true) Hr.heap) := Cg2.evC_cg (D := [0, 11]) (M := []) (F := [182]) (vs := [.int .u8 ((a % 5 : Nat) : Int), .int .u8 ((b % 2 : Nat) : Int)]) ⟨⟨wrap_small (by omega), wrap_small (by omega)⟩, (fun m hm => by cases hm), one1 (cg182 a (by omega))⟩ (af := a186) rfl (by kernel_rfl) (by kernel_rfl) (p := 0) (k := .u8) (b := (a : Int)) rfl rfl (fun s hs => by simp at hs; simp only [List.length_cons, List.length_nil]; omega) g0
  have g2 : Ev 186 [.int .u8 (a : Int), .int .u8 (b : Int)] heap0 = some (.ret (.bool true) Hr.heap) := Cg2.evC_cg (D := [1, 15, 16]) (M := [2]) (F := []) (vs := [.int .u8 (a : Int), .int .u8 ((b % 2 : Nat) : Int)]) ⟨⟨wrap_small (by omega), wrap_small (by omega)⟩, one1 ⟨by decide, tmod_cast b 2⟩, (fun f hf => by cases hf)⟩ (af := a186) rfl (by kernel_rfl) (by kernel_rfl) (p := 1) (k := .u8) (b := (b : Int)) rfl rfl (fun s hs => by simp at hs; simp only [List.length_cons, List.length_nil]; omega) g1
  exact ⟨_, g2⟩
theorem run3 (n : Nat) (hn : n < 8) : (fun b : Nat => tru (callZ lkB 100000 187 (.one (.u 0 3) (.one (.u 0 b) .nil)) ZH.none)) n = true := by
  match n, hn with
  | 0, _ => exact run3_0
  | 1, _ => exact run3_1
  | 2, _ => exact run3_2
  | 3, _ => exact run3_3
  | 4, _ => exact run3_4
  | 5, _ => exact run3_5
  | 6, _ => exact run3_6
  | 7, _ => exact run3_7
  | n + 8, h => exact absurd h (by omega)
theorem all3 (a b : Nat) (ha : a < 256) (hb : b < 256) (ea : a % 5 = 3)  : ∃ H', evC (fun f => afs[f]?) 187 [.int .u8 (a : Int), .int .u8 (b : Int)] heap0 = some (.ret (.bool true) H') := by
  have rb := run3 (b % 8) (Nat.mod_lt _ (by decide))
  obtain ⟨Hr, h0⟩ := tru_ret (rb)
  have h0 := runZ_ret lkB_ok (w := .one (.u 0 3) (.one (.u 0 (b % 8)) .nil)) (H := ZH.none) trivial h0
  have g0 : Ev 187 [.int .u8 ((3 : Nat) : Int), .int .u8 ((b % 8 : Nat) : Int)] heap0 = some (.ret (.bool true) Hr.heap) := h0
  have g0 : Ev 187 [.int .u8 ((a % 5 : Nat) : Int), .int .u8 ((b % 8 : Nat) : Int)] heap0 = some (.ret (.bool true) Hr.heap) := by rw [ea]; exact g0
  have g1 : Ev 187 [.int .u8 (a : Int), .int .u8 ((b % 8 : Nat) : Int)] heap0 = some (.ret (.bool true) Hr.heap) := Cg2.evC_cg (D := [0, 11]) (M := []) (F := [182]) (vs := [.int .u8 ((a % 5 : Nat) : Int), .int .u8 ((b % 8 : Nat) : Int)]) ⟨⟨wrap_small (by omega), wrap_small (by omega)⟩, (fun m hm => by cases hm), one1 (cg182 a (by omega))⟩ (af := a187) rfl (by kernel_rfl) (by kernel_rfl) (p := 0) (k := .u8) (b := (a : Int)) rfl rfl (fun s hs => by simp at hs; simp only [List.length_cons, List.length_nil]; omega) g0
  have g2 : Ev 187 [.int .u8 (a : Int), .int .u8 (b : Int)] heap0 = some (.ret (.bool true) Hr.heap) := Cg2.evC_cg (D := [1, 15, 16]) (M := [8]) (F := []) (vs := [.int .u8 (a : Int), .int .u8 ((b % 8 : Nat) : Int)]) ⟨⟨wrap_small (by omega), wrap_small (by omega)⟩, one1 ⟨by decide, tmod_cast b 8⟩, (fun f hf => by cases hf)⟩ (af := a187) rfl (by kernel_rfl) (by kernel_rfl) (p := 1) (k := .u8) (b := (b : Int)) rfl rfl (fun s hs => by simp at hs; simp only [List.length_cons, List.length_nil]; omega) g1
  exact ⟨_, g2⟩
theorem run4 (n : Nat) (hn : n < 4) : (fun b : Nat => tru (callZ lkB 100000 185 (.one (.u 0 4) (.one (.u 0 b) .nil)) ZH.none)) n = true := by
  match n, hn with
  | 0, _ => exact run4_0
  | 1, _ => exact run4_1
  | 2, _ => exact run4_2
  | 3, _ => exact run4_3
  | n + 4, h => exact absurd h (by omega)
theorem all4 (a b : Nat) (ha : a < 256) (hb : b < 256) (ea : a % 5 = 4)  : ∃ H', evC (fun f => afs[f]?) 185 [.int .u8 (a : Int), .int .u8 (b : Int)] heap0 = some (.ret (.bool true) H') := by
  have rb := run4 (b % 4) (Nat.mod_lt _ (by decide))
  obtain ⟨Hr, h0⟩ := tru_ret (rb)
  have h0 := runZ_ret lkB_ok (w := .one (.u 0 4) (.one (.u 0 (b % 4)) .nil)) (H := ZH.none) trivial h0
  have g0 : Ev 185 [.int .u8 ((4 : Nat) : Int), .int .u8 ((b % 4 : Nat) : Int)] heap0 = some (.ret (.bool true) Hr.heap) := h0
  have g0 : Ev 185 [.int .u8 ((a % 5 : Nat) : Int), .int .u8 ((b % 4 : Nat) : Int)] heap0 = some (.ret (.bool true) Hr.heap) := by rw [ea]; exact g0
  have g1 : Ev 185 [.int .u8 (a : Int), .int .u8 ((b % 4 : Nat) : Int)] heap0 = some (.ret (.bool true) Hr.heap) := Cg2.evC_cg (D := [0, 11]) (M := []) (F := [182]) (vs := [.int .u8 ((a % 5 : Nat) : Int), .int .u8 ((b % 4 : Nat) : Int)]) ⟨⟨wrap_small (by omega), wrap_small (by omega)⟩, (fun m hm => by cases hm), one1 (cg182 a (by omega))⟩ (af := a185) rfl (by kernel_rfl) (by kernel_rfl) (p := 0) (k := .u8) (b := (a : Int)) rfl rfl (fun s hs => by simp at hs; simp only [List.length_cons, List.length_nil]; omega) g0
  have g2 : Ev 185 [.int .u8 (a : Int), .int .u8 (b : Int)] heap0 = some (.ret (.bool true) Hr.heap) := Cg2.evC_cg (D := [1, 15, 16]) (M := [4]) (F := []) (vs := [.int .u8 (a : Int), .int .u8 ((b % 4 : Nat) : Int)]) ⟨⟨wrap_small (by omega), wrap_small (by omega)⟩, one1 ⟨by decide, tmod_cast b 4⟩, (fun f hf => by cases hf)⟩ (af := a185) rfl (by kernel_rfl) (by kernel_rfl) (p := 1) (k := .u8) (b := (b : Int)) rfl rfl (fun s hs => by simp at hs; simp only [List.length_cons, List.length_nil]; omega) g1
  exact ⟨_, g2⟩
end Ey.Tt
namespace Go.Proofs.YtcbmfmdmmbcehaaGreat.tableTwice
open Go Go.ChangeShapes Go.WideShapes Go.ChangeAt Go.RowKit
theorem own : ownKnob Tryz.prog.godebug = none := by kernel_rfl
theorem walk (a b : Nat) (ha : a < 256) (hb : b < 256) (W : World) (hw : ∀ b o v, Ey.Tt.cx.gl b o = some v → W.cell? ⟨b, o, none⟩ = some v ∧ b < W.heap.size) : Calls Tryz.prog 4 #[.int .u8 (a : Int), .int .u8 (b : Int)] W fun e w' => e = .returned (.bool true) ∧ Below W.heap.size W w' := by
  have hsplit : a % 5 = 0 ∨ a % 5 = 1 ∨ a % 5 = 2 ∨ a % 5 = 3 ∨ a % 5 = 4 := by omega
  rcases hsplit with hs | hs | hs | hs | hs
  ·
    obtain ⟨H', h⟩ := Ey.Tt.all0 a b ha hb hs
    exact Ey.args_calls Ey.Tt.known (f := 184) (fid := 4) rfl (vs := [.int .u8 (a : Int), .int .u8 (b : Int)]) rfl (fun g => Ey.vr_ints [(.u8, (a : Int)), (.u8, (b : Int))] g) h W hw
  ·
    obtain ⟨H', h⟩ := Ey.Tt.all1 a b ha hb hs
    exact Ey.args_calls Ey.Tt.known (f := 185) (fid := 4) rfl (vs := [.int .u8 (a : Int), .int .u8 (b : Int)]) rfl (fun g => Ey.vr_ints [(.u8, (a : Int)), (.u8, (b : Int))] g) h W hw
  ·
    obtain ⟨H', h⟩ := Ey.Tt.all2 a b ha hb hs
    exact Ey.args_calls Ey.Tt.known (f := 186) (fid := 4) rfl (vs := [.int .u8 (a : Int), .int .u8 (b : Int)]) rfl (fun g => Ey.vr_ints [(.u8, (a : Int)), (.u8, (b : Int))] g) h W hw
  ·
    obtain ⟨H', h⟩ := Ey.Tt.all3 a b ha hb hs
    exact Ey.args_calls Ey.Tt.known (f := 187) (fid := 4) rfl (vs := [.int .u8 (a : Int), .int .u8 (b : Int)]) rfl (fun g => Ey.vr_ints [(.u8, (a : Int)), (.u8, (b : Int))] g) h W hw
  ·
    obtain ⟨H', h⟩ := Ey.Tt.all4 a b ha hb hs
    exact Ey.args_calls Ey.Tt.known (f := 185) (fid := 4) rfl (vs := [.int .u8 (a : Int), .int .u8 (b : Int)]) rfl (fun g => Ey.vr_ints [(.u8, (a : Int)), (.u8, (b : Int))] g) h W hw
theorem lifted (os : Os) (started : os.Started) (H : Type) (enc : TypeId × Value → H) :
    ReturnsInHanded {} Tryz.checked os 4 .any (Rows.tableTwiceSpec.pre6 enc Tryz.prog Tryz.f4 Rows.tableTwiceRow.domain false) (Rows.tableTwiceSpec.post enc Tryz.prog Tryz.f4 false true false false) := by
  refine returnsInHanded_of_change (C := Tryz.checked) own started (by kernel_rfl) Tryz.func4
    (ChangeSpec.witness6 (enc := enc) (C := Tryz.checked) false ⟨#[], #[.int .u8 0, .int .u8 0], []⟩ 8 (by kernel_rfl) (by kernel_rfl) (by kernel_rfl) (by kernel_rfl)) ?_
  intro W base args ds gs before hval0 hW _ _
  have hval : ∀ (j : Nat) t v, Tryz.f4.params[j]? = some t → args[j]? = some v → Value.okWide Tryz.prog W .any base t v := hval0
  have hW' := hW
  obtain ⟨p, q, hA0, hV, rfl, _, _⟩ := hW
  have hA : DataW.TrodAll enc Tryz.prog W 0 (fun _ => true) true Tryz.f4.params.toList args.toList ds p := hA0
  rw [Tryz.params4] at hA hval
  obtain ⟨v0, v1, d0, d1, p0, p1, rfl, rfl, rfl, h0, h1⟩ := trodAll_two hA
  obtain ⟨rfl, rfl⟩ := trodVars_none hV
  obtain ⟨z0, rfl, rfl, rfl, w0⟩ := open_int Tryz.underlying5 (hval 0 5 v0 rfl rfl) h0
  obtain ⟨z1, rfl, rfl, rfl, w1⟩ := open_int Tryz.underlying5 (hval 1 5 v1 rfl rfl) h1
  clear hA0 hval0
  simp only [List.append_nil] at hW'
  obtain ⟨a, ha, rfl⟩ : ∃ a : Nat, a < 256 ∧ z0 = (a : Int) := by
    have hz : 0 ≤ z0 ∧ z0 ≤ 255 := by simpa [Lit.wf, IntKind.min, IntKind.max, IntKind.signed, IntKind.bits] using w0
    exact ⟨z0.toNat, by omega, by omega⟩
  obtain ⟨b, hb, rfl⟩ : ∃ b : Nat, b < 256 ∧ z1 = (b : Int) := by
    have hz : 0 ≤ z1 ∧ z1 ≤ 255 := by simpa [Lit.wf, IntKind.min, IntKind.max, IntKind.signed, IntKind.bits] using w1
    exact ⟨z1.toNat, by omega, by omega⟩
  refine (walk a b ha hb W (fun b o v h => by simp [Ey.Tt.cx, Ey.glf] at h)).mono fun e W' ⟨he, hb⟩ => ?_
  subst he
  exact ⟨_, rfl, Ey.post_low (pa := []) (pv := []) hW' (fun _ _ _ => trodAll_mk1 (shut_bool Tryz.underlying4 _)) (fun sp _ => trodAll_mk2 (shut_int Tryz.underlying5 w0) (shut_int Tryz.underlying5 w1)) (fun _ _ => rfl) rfl hb (ok_one (by kernel_rfl) rfl (okWide_bool_mk Tryz.underlying4 _))⟩
theorem over : Rows.TableTwiceSaid :=
  OpenClaim.holds_of_wide 4 Tryz.f4 rfl rfl rfl rfl rfl rfl rfl ⟨rfl, rfl, rfl, rfl, rfl⟩ rfl rfl rfl rfl rfl (by kernel_rfl) Tryz.func4 facts
    (of_decide_eq_true (by kernel_rfl)) (by unfold Func.isWrapper; first | (rw [if_pos (by decide +kernel)]; kernel_rfl) | (rw [if_neg (by decide +kernel)]; exact ⟨rfl, rfl⟩))
    (fun os started H enc _ => lifted os started H enc)
/-- the statement -/
theorem proved : Rows.TableTwiceSaid := over
end Go.Proofs.YtcbmfmdmmbcehaaGreat.tableTwice
