/- The statement Rows.FirstGivenSaid, that the law answers true whatever its arguments, is proved, under no condition: the law's functions are held against code of a small language of our own (YtijaafflmbjdgaaGreatFgC), whose evaluator the kernel runs at one argument of each remainder. -/
import Derived.Test.YtijaafflmbjdgaaGreatFgQ0
import Derived.Test.YtijaafflmbjdgaaGreatFgF
import Derived.Test.YtijaafflmbjdgaaGreatFgR0
import Derived.Test.YtijaafflmbjdgaaGreatFgR1
import Derived.Test.YtijaafflmbjdgaaGreatFgR2
import Derived.Test.YtijaafflmbjdgaaGreatFgR3
import Derived.Test.YtijaafflmbjdgaaGreatFgR4
import Derived.Test.YtijaafflmbjdgaaGreatFgR5
import Derived.Test.YtijaafflmbjdgaaGreatFgR6
import Derived.Test.YtijaafflmbjdgaaGreatFgR7
import Derived.Test.YtijaafflmbjdgaaGreatFgR8
import Derived.Test.YtijaafflmbjdgaaGreatFgR9
import Derived.Test.YtijaafflmbjdgaaGreatFgC
import Derived.Test.YtijaafflmbjdgaaGreatEyB4
import Derived.ProofKit
import Derived.OpenShut
set_option maxRecDepth 1000000
namespace Ey.Fg
open Go (IntKind)
abbrev MO (f : Nat) (m : Mem) : Prop := MemOK (fun f => afs[f]?) f m
theorem mc {Φ : Nat → Option AFn} {f : Nat} {m : Mem} {l : List Mem} (h : MemOK Φ f m) (t : ∀ x ∈ l, MemOK Φ f x) : ∀ x ∈ m :: l, MemOK Φ f x := List.forall_mem_cons.2 ⟨h, t⟩
theorem lk0_ok : ∀ f, ZEok (fun f => afs[f]?) f (lk0 f) := (nats_nil look)
theorem m0_ok : MO 71 m0 := mem_run lk0_ok r0
theorem m1_ok : MO 85 m1 := mem_run lk0_ok r1
theorem m2_ok : MO 2 m2 := mem_run lk0_ok r2
theorem m3_ok : MO 50 m3 := mem_run lk0_ok r3
theorem m4_ok : MO 50 m4 := mem_run lk0_ok r4
theorem m5_ok : MO 50 m5 := mem_run lk0_ok r5
theorem m6_ok : MO 50 m6 := mem_run lk0_ok r6
theorem m7_ok : MO 50 m7 := mem_run lk0_ok r7
theorem m8_ok : MO 50 m8 := mem_run lk0_ok r8
theorem m9_ok : MO 118 m9 := mem_run lk0_ok r9
theorem m10_ok : MO 73 m10 := mem_run lk0_ok r10
theorem m11_ok : MO 71 m11 := mem_run lk0_ok r11
theorem m12_ok : MO 85 m12 := mem_run lk0_ok r12
theorem m13_ok : MO 50 m13 := mem_run lk0_ok r13
theorem m14_ok : MO 50 m14 := mem_run lk0_ok r14
theorem m15_ok : MO 50 m15 := mem_run lk0_ok r15
theorem m16_ok : MO 50 m16 := mem_run lk0_ok r16
theorem m17_ok : MO 50 m17 := mem_run lk0_ok r17
theorem m18_ok : MO 50 m18 := mem_run lk0_ok r18
theorem m19_ok : MO 50 m19 := mem_run lk0_ok r19
theorem m20_ok : MO 50 m20 := mem_run lk0_ok r20
theorem m21_ok : MO 50 m21 := mem_run lk0_ok r21
theorem m22_ok : MO 50 m22 := mem_run lk0_ok r22
theorem m23_ok : MO 50 m23 := mem_run lk0_ok r23
theorem m24_ok : MO 50 m24 := mem_run lk0_ok r24
theorem m25_ok : MO 118 m25 := mem_run lk0_ok r25
theorem lk1_ok : ∀ f, ZEok (fun f => afs[f]?) f (lk1 f) := (nats_cons (memZ_ok (f := 2) rfl (mc m2_ok (fun _ h => by cases h))) (nats_cons (memZ_ok (f := 50) rfl (mc m3_ok (mc m4_ok (mc m5_ok (mc m6_ok (mc m7_ok (mc m8_ok (mc m13_ok (mc m14_ok (mc m15_ok (mc m16_ok (mc m17_ok (mc m18_ok (mc m19_ok (mc m20_ok (mc m21_ok (mc m22_ok (mc m23_ok (mc m24_ok (fun _ h => by cases h)))))))))))))))))))) (nats_cons (memZ_ok (f := 71) rfl (mc m0_ok (mc m11_ok (fun _ h => by cases h)))) (nats_cons (memZ_ok (f := 73) rfl (mc m10_ok (fun _ h => by cases h))) (nats_cons (memZ_ok (f := 85) rfl (mc m1_ok (mc m12_ok (fun _ h => by cases h)))) (nats_cons (memZ_ok (f := 118) rfl (mc m9_ok (mc m25_ok (fun _ h => by cases h)))) (nats_nil look)))))))
theorem m26_ok : MO 86 m26 := mem_run lk1_ok r26
theorem m27_ok : MO 86 m27 := mem_run lk1_ok r27
theorem m28_ok : MO 86 m28 := mem_run lk1_ok r28
theorem m29_ok : MO 54 m29 := mem_run lk1_ok r29
theorem m30_ok : MO 54 m30 := mem_run lk1_ok r30
theorem m31_ok : MO 55 m31 := mem_run lk1_ok r31
theorem m32_ok : MO 55 m32 := mem_run lk1_ok r32
theorem m33_ok : MO 55 m33 := mem_run lk1_ok r33
theorem m34_ok : MO 55 m34 := mem_run lk1_ok r34
theorem m35_ok : MO 55 m35 := mem_run lk1_ok r35
theorem m36_ok : MO 55 m36 := mem_run lk1_ok r36
theorem m37_ok : MO 112 m37 := mem_run lk1_ok r37
theorem m38_ok : MO 86 m38 := mem_run lk1_ok r38
theorem m39_ok : MO 86 m39 := mem_run lk1_ok r39
theorem m40_ok : MO 86 m40 := mem_run lk1_ok r40
theorem m41_ok : MO 86 m41 := mem_run lk1_ok r41
theorem m42_ok : MO 86 m42 := mem_run lk1_ok r42
theorem m43_ok : MO 86 m43 := mem_run lk1_ok r43
theorem m44_ok : MO 86 m44 := mem_run lk1_ok r44
theorem m45_ok : MO 86 m45 := mem_run lk1_ok r45
theorem m46_ok : MO 86 m46 := mem_run lk1_ok r46
theorem m47_ok : MO 86 m47 := mem_run lk1_ok r47
theorem m48_ok : MO 87 m48 := mem_run lk1_ok r48
theorem m49_ok : MO 54 m49 := mem_run lk1_ok r49
theorem m50_ok : MO 54 m50 := mem_run lk1_ok r50
theorem m51_ok : MO 55 m51 := mem_run lk1_ok r51
theorem m52_ok : MO 55 m52 := mem_run lk1_ok r52
theorem m53_ok : MO 55 m53 := mem_run lk1_ok r53
theorem m54_ok : MO 55 m54 := mem_run lk1_ok r54
theorem m55_ok : MO 55 m55 := mem_run lk1_ok r55
theorem m56_ok : MO 55 m56 := mem_run lk1_ok r56
theorem m57_ok : MO 55 m57 := mem_run lk1_ok r57
theorem m58_ok : MO 55 m58 := mem_run lk1_ok r58
theorem m59_ok : MO 55 m59 := mem_run lk1_ok r59
theorem m60_ok : MO 55 m60 := mem_run lk1_ok r60
theorem m61_ok : MO 55 m61 := mem_run lk1_ok r61
theorem m62_ok : MO 55 m62 := mem_run lk1_ok r62
theorem m63_ok : MO 112 m63 := mem_run lk1_ok r63
theorem m64_ok : MO 115 m64 := mem_run lk1_ok r64
theorem lk2_ok : ∀ f, ZEok (fun f => afs[f]?) f (lk2 f) := (nats_cons (memZ_ok (f := 2) rfl (mc m2_ok (fun _ h => by cases h))) (nats_cons (memZ_ok (f := 50) rfl (mc m3_ok (mc m4_ok (mc m5_ok (mc m6_ok (mc m7_ok (mc m8_ok (mc m13_ok (mc m14_ok (mc m15_ok (mc m16_ok (mc m17_ok (mc m18_ok (mc m19_ok (mc m20_ok (mc m21_ok (mc m22_ok (mc m23_ok (mc m24_ok (fun _ h => by cases h)))))))))))))))))))) (nats_cons (memZ_ok (f := 54) rfl (mc m29_ok (mc m30_ok (mc m49_ok (mc m50_ok (fun _ h => by cases h)))))) (nats_cons (memZ_ok (f := 55) rfl (mc m31_ok (mc m32_ok (mc m33_ok (mc m34_ok (mc m35_ok (mc m36_ok (mc m51_ok (mc m52_ok (mc m53_ok (mc m54_ok (mc m55_ok (mc m56_ok (mc m57_ok (mc m58_ok (mc m59_ok (mc m60_ok (mc m61_ok (mc m62_ok (fun _ h => by cases h)))))))))))))))))))) (nats_cons (memZ_ok (f := 71) rfl (mc m0_ok (mc m11_ok (fun _ h => by cases h)))) (nats_cons (memZ_ok (f := 73) rfl (mc m10_ok (fun _ h => by cases h))) (nats_cons (memZ_ok (f := 85) rfl (mc m1_ok (mc m12_ok (fun _ h => by cases h)))) (nats_cons (memZ_ok (f := 86) rfl (mc m26_ok (mc m27_ok (mc m28_ok (mc m38_ok (mc m39_ok (mc m40_ok (mc m41_ok (mc m42_ok (mc m43_ok (mc m44_ok (mc m45_ok (mc m46_ok (mc m47_ok (fun _ h => by cases h))))))))))))))) (nats_cons (memZ_ok (f := 87) rfl (mc m48_ok (fun _ h => by cases h))) (nats_cons (memZ_ok (f := 112) rfl (mc m37_ok (mc m63_ok (fun _ h => by cases h)))) (nats_cons (memZ_ok (f := 115) rfl (mc m64_ok (fun _ h => by cases h))) (nats_cons (memZ_ok (f := 118) rfl (mc m9_ok (mc m25_ok (fun _ h => by cases h)))) (nats_nil look)))))))))))))
theorem m65_ok : MO 101 m65 := mem_run lk2_ok r65
theorem m66_ok : MO 94 m66 := mem_run lk2_ok r66
theorem m67_ok : MO 100 m67 := mem_run lk2_ok r67
theorem lk3_ok : ∀ f, ZEok (fun f => afs[f]?) f (lk3 f) := (nats_cons (memZ_ok (f := 2) rfl (mc m2_ok (fun _ h => by cases h))) (nats_cons (memZ_ok (f := 50) rfl (mc m3_ok (mc m4_ok (mc m5_ok (mc m6_ok (mc m7_ok (mc m8_ok (mc m13_ok (mc m14_ok (mc m15_ok (mc m16_ok (mc m17_ok (mc m18_ok (mc m19_ok (mc m20_ok (mc m21_ok (mc m22_ok (mc m23_ok (mc m24_ok (fun _ h => by cases h)))))))))))))))))))) (nats_cons (memZ_ok (f := 54) rfl (mc m29_ok (mc m30_ok (mc m49_ok (mc m50_ok (fun _ h => by cases h)))))) (nats_cons (memZ_ok (f := 55) rfl (mc m31_ok (mc m32_ok (mc m33_ok (mc m34_ok (mc m35_ok (mc m36_ok (mc m51_ok (mc m52_ok (mc m53_ok (mc m54_ok (mc m55_ok (mc m56_ok (mc m57_ok (mc m58_ok (mc m59_ok (mc m60_ok (mc m61_ok (mc m62_ok (fun _ h => by cases h)))))))))))))))))))) (nats_cons (memZ_ok (f := 71) rfl (mc m0_ok (mc m11_ok (fun _ h => by cases h)))) (nats_cons (memZ_ok (f := 73) rfl (mc m10_ok (fun _ h => by cases h))) (nats_cons (memZ_ok (f := 85) rfl (mc m1_ok (mc m12_ok (fun _ h => by cases h)))) (nats_cons (memZ_ok (f := 86) rfl (mc m26_ok (mc m27_ok (mc m28_ok (mc m38_ok (mc m39_ok (mc m40_ok (mc m41_ok (mc m42_ok (mc m43_ok (mc m44_ok (mc m45_ok (mc m46_ok (mc m47_ok (fun _ h => by cases h))))))))))))))) (nats_cons (memZ_ok (f := 87) rfl (mc m48_ok (fun _ h => by cases h))) (nats_cons (memZ_ok (f := 94) rfl (mc m66_ok (fun _ h => by cases h))) (nats_cons (memZ_ok (f := 100) rfl (mc m67_ok (fun _ h => by cases h))) (nats_cons (memZ_ok (f := 101) rfl (mc m65_ok (fun _ h => by cases h))) (nats_cons (memZ_ok (f := 112) rfl (mc m37_ok (mc m63_ok (fun _ h => by cases h)))) (nats_cons (memZ_ok (f := 115) rfl (mc m64_ok (fun _ h => by cases h))) (nats_cons (memZ_ok (f := 118) rfl (mc m9_ok (mc m25_ok (fun _ h => by cases h)))) (nats_nil look))))))))))))))))
theorem m68_ok : MO 70 m68 := mem_run lk3_ok r68
theorem m69_ok : MO 72 m69 := mem_run lk3_ok r69
theorem m70_ok : MO 101 m70 := mem_run lk3_ok r70
theorem lk4_ok : ∀ f, ZEok (fun f => afs[f]?) f (lk4 f) := (nats_cons (memZ_ok (f := 2) rfl (mc m2_ok (fun _ h => by cases h))) (nats_cons (memZ_ok (f := 50) rfl (mc m3_ok (mc m4_ok (mc m5_ok (mc m6_ok (mc m7_ok (mc m8_ok (mc m13_ok (mc m14_ok (mc m15_ok (mc m16_ok (mc m17_ok (mc m18_ok (mc m19_ok (mc m20_ok (mc m21_ok (mc m22_ok (mc m23_ok (mc m24_ok (fun _ h => by cases h)))))))))))))))))))) (nats_cons (memZ_ok (f := 54) rfl (mc m29_ok (mc m30_ok (mc m49_ok (mc m50_ok (fun _ h => by cases h)))))) (nats_cons (memZ_ok (f := 55) rfl (mc m31_ok (mc m32_ok (mc m33_ok (mc m34_ok (mc m35_ok (mc m36_ok (mc m51_ok (mc m52_ok (mc m53_ok (mc m54_ok (mc m55_ok (mc m56_ok (mc m57_ok (mc m58_ok (mc m59_ok (mc m60_ok (mc m61_ok (mc m62_ok (fun _ h => by cases h)))))))))))))))))))) (nats_cons (memZ_ok (f := 70) rfl (mc m68_ok (fun _ h => by cases h))) (nats_cons (memZ_ok (f := 71) rfl (mc m0_ok (mc m11_ok (fun _ h => by cases h)))) (nats_cons (memZ_ok (f := 72) rfl (mc m69_ok (fun _ h => by cases h))) (nats_cons (memZ_ok (f := 73) rfl (mc m10_ok (fun _ h => by cases h))) (nats_cons (memZ_ok (f := 85) rfl (mc m1_ok (mc m12_ok (fun _ h => by cases h)))) (nats_cons (memZ_ok (f := 86) rfl (mc m26_ok (mc m27_ok (mc m28_ok (mc m38_ok (mc m39_ok (mc m40_ok (mc m41_ok (mc m42_ok (mc m43_ok (mc m44_ok (mc m45_ok (mc m46_ok (mc m47_ok (fun _ h => by cases h))))))))))))))) (nats_cons (memZ_ok (f := 87) rfl (mc m48_ok (fun _ h => by cases h))) (nats_cons (memZ_ok (f := 94) rfl (mc m66_ok (fun _ h => by cases h))) (nats_cons (memZ_ok (f := 100) rfl (mc m67_ok (fun _ h => by cases h))) (nats_cons (memZ_ok (f := 101) rfl (mc m65_ok (mc m70_ok (fun _ h => by cases h)))) (nats_cons (memZ_ok (f := 112) rfl (mc m37_ok (mc m63_ok (fun _ h => by cases h)))) (nats_cons (memZ_ok (f := 115) rfl (mc m64_ok (fun _ h => by cases h))) (nats_cons (memZ_ok (f := 118) rfl (mc m9_ok (mc m25_ok (fun _ h => by cases h)))) (nats_nil look))))))))))))))))))
theorem m71_ok : MO 157 m71 := mem_run lk4_ok r71
theorem m72_ok : MO 70 m72 := mem_run lk4_ok r72
theorem lk5_ok : ∀ f, ZEok (fun f => afs[f]?) f (lk5 f) := (nats_cons (memZ_ok (f := 2) rfl (mc m2_ok (fun _ h => by cases h))) (nats_cons (memZ_ok (f := 50) rfl (mc m3_ok (mc m4_ok (mc m5_ok (mc m6_ok (mc m7_ok (mc m8_ok (mc m13_ok (mc m14_ok (mc m15_ok (mc m16_ok (mc m17_ok (mc m18_ok (mc m19_ok (mc m20_ok (mc m21_ok (mc m22_ok (mc m23_ok (mc m24_ok (fun _ h => by cases h)))))))))))))))))))) (nats_cons (memZ_ok (f := 54) rfl (mc m29_ok (mc m30_ok (mc m49_ok (mc m50_ok (fun _ h => by cases h)))))) (nats_cons (memZ_ok (f := 55) rfl (mc m31_ok (mc m32_ok (mc m33_ok (mc m34_ok (mc m35_ok (mc m36_ok (mc m51_ok (mc m52_ok (mc m53_ok (mc m54_ok (mc m55_ok (mc m56_ok (mc m57_ok (mc m58_ok (mc m59_ok (mc m60_ok (mc m61_ok (mc m62_ok (fun _ h => by cases h)))))))))))))))))))) (nats_cons (memZ_ok (f := 70) rfl (mc m68_ok (mc m72_ok (fun _ h => by cases h)))) (nats_cons (memZ_ok (f := 71) rfl (mc m0_ok (mc m11_ok (fun _ h => by cases h)))) (nats_cons (memZ_ok (f := 72) rfl (mc m69_ok (fun _ h => by cases h))) (nats_cons (memZ_ok (f := 73) rfl (mc m10_ok (fun _ h => by cases h))) (nats_cons (memZ_ok (f := 85) rfl (mc m1_ok (mc m12_ok (fun _ h => by cases h)))) (nats_cons (memZ_ok (f := 86) rfl (mc m26_ok (mc m27_ok (mc m28_ok (mc m38_ok (mc m39_ok (mc m40_ok (mc m41_ok (mc m42_ok (mc m43_ok (mc m44_ok (mc m45_ok (mc m46_ok (mc m47_ok (fun _ h => by cases h))))))))))))))) (nats_cons (memZ_ok (f := 87) rfl (mc m48_ok (fun _ h => by cases h))) (nats_cons (memZ_ok (f := 94) rfl (mc m66_ok (fun _ h => by cases h))) (nats_cons (memZ_ok (f := 100) rfl (mc m67_ok (fun _ h => by cases h))) (nats_cons (memZ_ok (f := 101) rfl (mc m65_ok (mc m70_ok (fun _ h => by cases h)))) (nats_cons (memZ_ok (f := 112) rfl (mc m37_ok (mc m63_ok (fun _ h => by cases h)))) (nats_cons (memZ_ok (f := 115) rfl (mc m64_ok (fun _ h => by cases h))) (nats_cons (memZ_ok (f := 118) rfl (mc m9_ok (mc m25_ok (fun _ h => by cases h)))) (nats_cons (memZ_ok (f := 157) rfl (mc m71_ok (fun _ h => by cases h))) (nats_nil look)))))))))))))))))))
theorem m73_ok : MO 157 m73 := mem_run lk5_ok r73
theorem lk6_ok : ∀ f, ZEok (fun f => afs[f]?) f (lk6 f) := (nats_cons (memZ_ok (f := 2) rfl (mc m2_ok (fun _ h => by cases h))) (nats_cons (memZ_ok (f := 50) rfl (mc m3_ok (mc m4_ok (mc m5_ok (mc m6_ok (mc m7_ok (mc m8_ok (mc m13_ok (mc m14_ok (mc m15_ok (mc m16_ok (mc m17_ok (mc m18_ok (mc m19_ok (mc m20_ok (mc m21_ok (mc m22_ok (mc m23_ok (mc m24_ok (fun _ h => by cases h)))))))))))))))))))) (nats_cons (memZ_ok (f := 54) rfl (mc m29_ok (mc m30_ok (mc m49_ok (mc m50_ok (fun _ h => by cases h)))))) (nats_cons (memZ_ok (f := 55) rfl (mc m31_ok (mc m32_ok (mc m33_ok (mc m34_ok (mc m35_ok (mc m36_ok (mc m51_ok (mc m52_ok (mc m53_ok (mc m54_ok (mc m55_ok (mc m56_ok (mc m57_ok (mc m58_ok (mc m59_ok (mc m60_ok (mc m61_ok (mc m62_ok (fun _ h => by cases h)))))))))))))))))))) (nats_cons (memZ_ok (f := 70) rfl (mc m68_ok (mc m72_ok (fun _ h => by cases h)))) (nats_cons (memZ_ok (f := 71) rfl (mc m0_ok (mc m11_ok (fun _ h => by cases h)))) (nats_cons (memZ_ok (f := 72) rfl (mc m69_ok (fun _ h => by cases h))) (nats_cons (memZ_ok (f := 73) rfl (mc m10_ok (fun _ h => by cases h))) (nats_cons (memZ_ok (f := 85) rfl (mc m1_ok (mc m12_ok (fun _ h => by cases h)))) (nats_cons (memZ_ok (f := 86) rfl (mc m26_ok (mc m27_ok (mc m28_ok (mc m38_ok (mc m39_ok (mc m40_ok (mc m41_ok (mc m42_ok (mc m43_ok (mc m44_ok (mc m45_ok (mc m46_ok (mc m47_ok (fun _ h => by cases h))))))))))))))) (nats_cons (memZ_ok (f := 87) rfl (mc m48_ok (fun _ h => by cases h))) (nats_cons (memZ_ok (f := 94) rfl (mc m66_ok (fun _ h => by cases h))) (nats_cons (memZ_ok (f := 100) rfl (mc m67_ok (fun _ h => by cases h))) (nats_cons (memZ_ok (f := 101) rfl (mc m65_ok (mc m70_ok (fun _ h => by cases h)))) (nats_cons (memZ_ok (f := 112) rfl (mc m37_ok (mc m63_ok (fun _ h => by cases h)))) (nats_cons (memZ_ok (f := 115) rfl (mc m64_ok (fun _ h => by cases h))) (nats_cons (memZ_ok (f := 118) rfl (mc m9_ok (mc m25_ok (fun _ h => by cases h)))) (nats_cons (memZ_ok (f := 157) rfl (mc m71_ok (mc m73_ok (fun _ h => by cases h)))) (nats_nil look)))))))))))))))))))
theorem begunIs : evC (fun f => afs[f]?) 158 [] heap0 = some (.ret (.bool true) heap0) := by
  obtain ⟨H, h⟩ := tru_ret begunRun
  have h2 := runZ_ret lk6_ok (w := .nil) (H := ZH.none) trivial h
  have h3 := pure_ret (af := a158) rfl rfl h2
  rw [h3] at h2
  exact h2
theorem beg_ok : ZEok (fun f => afs[f]?) 158 onceZ := once_ok begunIs
theorem lkB_ok : ∀ f, ZEok (fun f => afs[f]?) f (lkB f) := (nats_cons beg_ok (nats_cons (memZ_ok (f := 2) rfl (mc m2_ok (fun _ h => by cases h))) (nats_cons (memZ_ok (f := 50) rfl (mc m3_ok (mc m4_ok (mc m5_ok (mc m6_ok (mc m7_ok (mc m8_ok (mc m13_ok (mc m14_ok (mc m15_ok (mc m16_ok (mc m17_ok (mc m18_ok (mc m19_ok (mc m20_ok (mc m21_ok (mc m22_ok (mc m23_ok (mc m24_ok (fun _ h => by cases h)))))))))))))))))))) (nats_cons (memZ_ok (f := 54) rfl (mc m29_ok (mc m30_ok (mc m49_ok (mc m50_ok (fun _ h => by cases h)))))) (nats_cons (memZ_ok (f := 55) rfl (mc m31_ok (mc m32_ok (mc m33_ok (mc m34_ok (mc m35_ok (mc m36_ok (mc m51_ok (mc m52_ok (mc m53_ok (mc m54_ok (mc m55_ok (mc m56_ok (mc m57_ok (mc m58_ok (mc m59_ok (mc m60_ok (mc m61_ok (mc m62_ok (fun _ h => by cases h)))))))))))))))))))) (nats_cons (memZ_ok (f := 70) rfl (mc m68_ok (mc m72_ok (fun _ h => by cases h)))) (nats_cons (memZ_ok (f := 71) rfl (mc m0_ok (mc m11_ok (fun _ h => by cases h)))) (nats_cons (memZ_ok (f := 72) rfl (mc m69_ok (fun _ h => by cases h))) (nats_cons (memZ_ok (f := 73) rfl (mc m10_ok (fun _ h => by cases h))) (nats_cons (memZ_ok (f := 85) rfl (mc m1_ok (mc m12_ok (fun _ h => by cases h)))) (nats_cons (memZ_ok (f := 86) rfl (mc m26_ok (mc m27_ok (mc m28_ok (mc m38_ok (mc m39_ok (mc m40_ok (mc m41_ok (mc m42_ok (mc m43_ok (mc m44_ok (mc m45_ok (mc m46_ok (mc m47_ok (fun _ h => by cases h))))))))))))))) (nats_cons (memZ_ok (f := 87) rfl (mc m48_ok (fun _ h => by cases h))) (nats_cons (memZ_ok (f := 94) rfl (mc m66_ok (fun _ h => by cases h))) (nats_cons (memZ_ok (f := 100) rfl (mc m67_ok (fun _ h => by cases h))) (nats_cons (memZ_ok (f := 101) rfl (mc m65_ok (mc m70_ok (fun _ h => by cases h)))) (nats_cons (memZ_ok (f := 112) rfl (mc m37_ok (mc m63_ok (fun _ h => by cases h)))) (nats_cons (memZ_ok (f := 115) rfl (mc m64_ok (fun _ h => by cases h))) (nats_cons (memZ_ok (f := 118) rfl (mc m9_ok (mc m25_ok (fun _ h => by cases h)))) (nats_cons (memZ_ok (f := 157) rfl (mc m71_ok (mc m73_ok (fun _ h => by cases h)))) (nats_nil look))))))))))))))))))))
theorem all0    : ∃ H', evC (fun f => afs[f]?) 162 [] heap0 = some (.ret (.bool true) H') := by
  obtain ⟨Hr, h0⟩ := tru_ret (run0)
  have h0 := runZ_ret lkB_ok (w := .nil) (H := ZH.none) trivial h0
  have g0 : evC (fun f => afs[f]?) 162 [] heap0 = some (.ret (.bool true) Hr.heap) := h0
  exact ⟨_, g0⟩
end Ey.Fg
namespace Go.Proofs.YtijaafflmbjdgaaGreat.firstGiven
open Go Go.ChangeShapes Go.WideShapes Go.ChangeAt Go.RowKit
theorem own : ownKnob Tryz.prog.godebug = none := by kernel_rfl
theorem walk   (W : World) (hw : ∀ b o v, Ey.Fg.cx.gl b o = some v → W.cell? ⟨b, o, none⟩ = some v ∧ b < W.heap.size) : Calls Tryz.prog 3 #[] W fun e w' => e = .returned (.bool true) ∧ Below W.heap.size W w' := by
  obtain ⟨H', h⟩ := Ey.Fg.all0  
  exact Ey.args_calls Ey.Fg.known (f := 162) (fid := 3) rfl (vs := []) rfl (fun g => Ey.vr_ints [] g) h W hw
theorem lifted (os : Os) (started : os.Started) (H : Type) (enc : TypeId × Value → H) :
    ReturnsInHanded {} Tryz.checked os 3 .any (Rows.firstGivenSpec.pre6 enc Tryz.prog Tryz.f3 Rows.firstGivenRow.domain false) (Rows.firstGivenSpec.post enc Tryz.prog Tryz.f3 false true false false) := by
  refine returnsInHanded_of_change (C := Tryz.checked) own started (by kernel_rfl) Tryz.func3
    (ChangeSpec.witness6 (enc := enc) (C := Tryz.checked) false ⟨#[], #[], []⟩ 8 (by kernel_rfl) (by kernel_rfl) (by kernel_rfl) (by kernel_rfl)) ?_
  intro W base args ds gs before hval0 hW _ _
  have hval : ∀ (j : Nat) t v, Tryz.f3.params[j]? = some t → args[j]? = some v → Value.okWide Tryz.prog W .any base t v := hval0
  have hW' := hW
  obtain ⟨p, q, hA0, hV, rfl, _, _⟩ := hW
  have hA : DataW.TrodAll enc Tryz.prog W 0 (fun _ => true) true Tryz.f3.params.toList args.toList ds p := hA0
  rw [Tryz.params3] at hA hval
  obtain ⟨rfl, rfl, rfl⟩ := trodAll_none hA
  obtain ⟨rfl, rfl⟩ := trodVars_none hV
  clear hA0 hval0
  simp only [List.append_nil] at hW'
  refine (walk   W (fun b o v h => by simp [Ey.Fg.cx, Ey.glf] at h)).mono fun e W' ⟨he, hb⟩ => ?_
  subst he
  exact ⟨_, rfl, Ey.post_low (pa := []) (pv := []) hW' (fun _ _ _ => trodAll_mk1 (shut_bool Tryz.underlying4 _)) (fun sp _ => rfl) (fun _ _ => rfl) rfl hb (ok_one (by kernel_rfl) rfl (okWide_bool_mk Tryz.underlying4 _))⟩
theorem over : Rows.FirstGivenSaid :=
  OpenClaim.holds_of_wide 3 Tryz.f3 rfl rfl rfl rfl rfl rfl rfl ⟨rfl, rfl, rfl, rfl, rfl⟩ rfl rfl rfl rfl rfl (by kernel_rfl) Tryz.func3 facts
    (of_decide_eq_true (by kernel_rfl)) (by unfold Func.isWrapper; first | (rw [if_pos (by decide +kernel)]; kernel_rfl) | (rw [if_neg (by decide +kernel)]; exact ⟨rfl, rfl⟩))
    (fun os started H enc _ => lifted os started H enc)
/-- the statement -/
theorem proved : Rows.FirstGivenSaid := over
end Go.Proofs.YtijaafflmbjdgaaGreat.firstGiven
