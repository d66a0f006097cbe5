/- The statement Rows.TableReadsSaid, that the law answers true whatever its arguments, is proved, under no condition: the law's functions are held against code of a small language of our own (YtcbmfmdmmbcehaaGreatTrC), whose evaluator the kernel runs at one argument of each remainder. -/
import Derived.Test.YtcbmfmdmmbcehaaGreatTrQ0
import Derived.Test.YtcbmfmdmmbcehaaGreatTrF
import Derived.Test.YtcbmfmdmmbcehaaGreatTrR0
import Derived.Test.YtcbmfmdmmbcehaaGreatTrR1
import Derived.Test.YtcbmfmdmmbcehaaGreatTrR2
import Derived.Test.YtcbmfmdmmbcehaaGreatTrC
import Derived.Test.YtcbmfmdmmbcehaaGreatEyB4
import Derived.ProofKit
import Derived.OpenShut
set_option maxRecDepth 1000000
namespace Ey.Tr
open Go (IntKind)
theorem lk0_ok : ∀ f, ZEok (fun f => afs[f]?) f (lk0 f) := (nats_nil look)
theorem m0_ok : MemOK (fun f => afs[f]?) 73 m0 := mem_run (m := m0) lk0_ok r0
theorem m1_ok : MemOK (fun f => afs[f]?) 87 m1 := mem_run (m := m1) lk0_ok r1
theorem m2_ok : MemOK (fun f => afs[f]?) 2 m2 := mem_run (m := m2) lk0_ok r2
theorem m3_ok : MemOK (fun f => afs[f]?) 45 m3 := mem_run (m := m3) lk0_ok r3
theorem m4_ok : MemOK (fun f => afs[f]?) 45 m4 := mem_run (m := m4) lk0_ok r4
theorem m5_ok : MemOK (fun f => afs[f]?) 45 m5 := mem_run (m := m5) lk0_ok r5
theorem m6_ok : MemOK (fun f => afs[f]?) 45 m6 := mem_run (m := m6) lk0_ok r6
theorem m7_ok : MemOK (fun f => afs[f]?) 45 m7 := mem_run (m := m7) lk0_ok r7
theorem m8_ok : MemOK (fun f => afs[f]?) 45 m8 := mem_run (m := m8) lk0_ok r8
theorem m9_ok : MemOK (fun f => afs[f]?) 116 m9 := mem_run (m := m9) lk0_ok r9
theorem lk1_ok : ∀ f, ZEok (fun f => afs[f]?) f (lk1 f) := (nats_cons (memZ_ok (f := 2) rfl (List.forall_mem_cons.2 ⟨m2_ok, (fun _ h => by cases h)⟩)) (nats_cons (memZ_ok (f := 45) rfl (List.forall_mem_cons.2 ⟨m3_ok, (List.forall_mem_cons.2 ⟨m4_ok, (List.forall_mem_cons.2 ⟨m5_ok, (List.forall_mem_cons.2 ⟨m6_ok, (List.forall_mem_cons.2 ⟨m7_ok, (List.forall_mem_cons.2 ⟨m8_ok, (fun _ h => by cases h)⟩)⟩)⟩)⟩)⟩)⟩)) (nats_cons (memZ_ok (f := 73) rfl (List.forall_mem_cons.2 ⟨m0_ok, (fun _ h => by cases h)⟩)) (nats_cons (memZ_ok (f := 87) rfl (List.forall_mem_cons.2 ⟨m1_ok, (fun _ h => by cases h)⟩)) (nats_cons (memZ_ok (f := 116) rfl (List.forall_mem_cons.2 ⟨m9_ok, (fun _ h => by cases h)⟩)) (nats_nil look))))))
theorem m10_ok : MemOK (fun f => afs[f]?) 88 m10 := mem_run (m := m10) lk1_ok r10
theorem m11_ok : MemOK (fun f => afs[f]?) 88 m11 := mem_run (m := m11) lk1_ok r11
theorem m12_ok : MemOK (fun f => afs[f]?) 88 m12 := mem_run (m := m12) lk1_ok r12
theorem m13_ok : MemOK (fun f => afs[f]?) 49 m13 := mem_run (m := m13) lk1_ok r13
theorem m14_ok : MemOK (fun f => afs[f]?) 49 m14 := mem_run (m := m14) lk1_ok r14
theorem m15_ok : MemOK (fun f => afs[f]?) 50 m15 := mem_run (m := m15) lk1_ok r15
theorem m16_ok : MemOK (fun f => afs[f]?) 50 m16 := mem_run (m := m16) lk1_ok r16
theorem m17_ok : MemOK (fun f => afs[f]?) 50 m17 := mem_run (m := m17) lk1_ok r17
theorem m18_ok : MemOK (fun f => afs[f]?) 50 m18 := mem_run (m := m18) lk1_ok r18
theorem m19_ok : MemOK (fun f => afs[f]?) 50 m19 := mem_run (m := m19) lk1_ok r19
theorem m20_ok : MemOK (fun f => afs[f]?) 50 m20 := mem_run (m := m20) lk1_ok r20
theorem m21_ok : MemOK (fun f => afs[f]?) 113 m21 := mem_run (m := m21) lk1_ok r21
theorem lk2_ok : ∀ f, ZEok (fun f => afs[f]?) f (lk2 f) := (nats_cons (memZ_ok (f := 2) rfl (List.forall_mem_cons.2 ⟨m2_ok, (fun _ h => by cases h)⟩)) (nats_cons (memZ_ok (f := 45) rfl (List.forall_mem_cons.2 ⟨m3_ok, (List.forall_mem_cons.2 ⟨m4_ok, (List.forall_mem_cons.2 ⟨m5_ok, (List.forall_mem_cons.2 ⟨m6_ok, (List.forall_mem_cons.2 ⟨m7_ok, (List.forall_mem_cons.2 ⟨m8_ok, (fun _ h => by cases h)⟩)⟩)⟩)⟩)⟩)⟩)) (nats_cons (memZ_ok (f := 49) rfl (List.forall_mem_cons.2 ⟨m13_ok, (List.forall_mem_cons.2 ⟨m14_ok, (fun _ h => by cases h)⟩)⟩)) (nats_cons (memZ_ok (f := 50) rfl (List.forall_mem_cons.2 ⟨m15_ok, (List.forall_mem_cons.2 ⟨m16_ok, (List.forall_mem_cons.2 ⟨m17_ok, (List.forall_mem_cons.2 ⟨m18_ok, (List.forall_mem_cons.2 ⟨m19_ok, (List.forall_mem_cons.2 ⟨m20_ok, (fun _ h => by cases h)⟩)⟩)⟩)⟩)⟩)⟩)) (nats_cons (memZ_ok (f := 73) rfl (List.forall_mem_cons.2 ⟨m0_ok, (fun _ h => by cases h)⟩)) (nats_cons (memZ_ok (f := 87) rfl (List.forall_mem_cons.2 ⟨m1_ok, (fun _ h => by cases h)⟩)) (nats_cons (memZ_ok (f := 88) rfl (List.forall_mem_cons.2 ⟨m10_ok, (List.forall_mem_cons.2 ⟨m11_ok, (List.forall_mem_cons.2 ⟨m12_ok, (fun _ h => by cases h)⟩)⟩)⟩)) (nats_cons (memZ_ok (f := 113) rfl (List.forall_mem_cons.2 ⟨m21_ok, (fun _ h => by cases h)⟩)) (nats_cons (memZ_ok (f := 116) rfl (List.forall_mem_cons.2 ⟨m9_ok, (fun _ h => by cases h)⟩)) (nats_nil look))))))))))
theorem m22_ok : MemOK (fun f => afs[f]?) 95 m22 := mem_run (m := m22) lk2_ok r22
theorem m23_ok : MemOK (fun f => afs[f]?) 102 m23 := mem_run (m := m23) lk2_ok r23
theorem m24_ok : MemOK (fun f => afs[f]?) 145 m24 := mem_run (m := m24) lk2_ok r24
theorem lk3_ok : ∀ f, ZEok (fun f => afs[f]?) f (lk3 f) := (nats_cons (memZ_ok (f := 2) rfl (List.forall_mem_cons.2 ⟨m2_ok, (fun _ h => by cases h)⟩)) (nats_cons (memZ_ok (f := 45) rfl (List.forall_mem_cons.2 ⟨m3_ok, (List.forall_mem_cons.2 ⟨m4_ok, (List.forall_mem_cons.2 ⟨m5_ok, (List.forall_mem_cons.2 ⟨m6_ok, (List.forall_mem_cons.2 ⟨m7_ok, (List.forall_mem_cons.2 ⟨m8_ok, (fun _ h => by cases h)⟩)⟩)⟩)⟩)⟩)⟩)) (nats_cons (memZ_ok (f := 49) rfl (List.forall_mem_cons.2 ⟨m13_ok, (List.forall_mem_cons.2 ⟨m14_ok, (fun _ h => by cases h)⟩)⟩)) (nats_cons (memZ_ok (f := 50) rfl (List.forall_mem_cons.2 ⟨m15_ok, (List.forall_mem_cons.2 ⟨m16_ok, (List.forall_mem_cons.2 ⟨m17_ok, (List.forall_mem_cons.2 ⟨m18_ok, (List.forall_mem_cons.2 ⟨m19_ok, (List.forall_mem_cons.2 ⟨m20_ok, (fun _ h => by cases h)⟩)⟩)⟩)⟩)⟩)⟩)) (nats_cons (memZ_ok (f := 73) rfl (List.forall_mem_cons.2 ⟨m0_ok, (fun _ h => by cases h)⟩)) (nats_cons (memZ_ok (f := 87) rfl (List.forall_mem_cons.2 ⟨m1_ok, (fun _ h => by cases h)⟩)) (nats_cons (memZ_ok (f := 88) rfl (List.forall_mem_cons.2 ⟨m10_ok, (List.forall_mem_cons.2 ⟨m11_ok, (List.forall_mem_cons.2 ⟨m12_ok, (fun _ h => by cases h)⟩)⟩)⟩)) (nats_cons (memZ_ok (f := 95) rfl (List.forall_mem_cons.2 ⟨m22_ok, (fun _ h => by cases h)⟩)) (nats_cons (memZ_ok (f := 102) rfl (List.forall_mem_cons.2 ⟨m23_ok, (fun _ h => by cases h)⟩)) (nats_cons (memZ_ok (f := 113) rfl (List.forall_mem_cons.2 ⟨m21_ok, (fun _ h => by cases h)⟩)) (nats_cons (memZ_ok (f := 116) rfl (List.forall_mem_cons.2 ⟨m9_ok, (fun _ h => by cases h)⟩)) (nats_cons (memZ_ok (f := 145) rfl (List.forall_mem_cons.2 ⟨m24_ok, (fun _ h => by cases h)⟩)) (nats_nil look)))))))))))))
theorem m25_ok : MemOK (fun f => afs[f]?) 74 m25 := mem_run (m := m25) lk3_ok r25
theorem m26_ok : MemOK (fun f => afs[f]?) 167 m26 := mem_run (m := m26) lk3_ok r26
theorem lk4_ok : ∀ f, ZEok (fun f => afs[f]?) f (lk4 f) := (nats_cons (memZ_ok (f := 2) rfl (List.forall_mem_cons.2 ⟨m2_ok, (fun _ h => by cases h)⟩)) (nats_cons (memZ_ok (f := 45) rfl (List.forall_mem_cons.2 ⟨m3_ok, (List.forall_mem_cons.2 ⟨m4_ok, (List.forall_mem_cons.2 ⟨m5_ok, (List.forall_mem_cons.2 ⟨m6_ok, (List.forall_mem_cons.2 ⟨m7_ok, (List.forall_mem_cons.2 ⟨m8_ok, (fun _ h => by cases h)⟩)⟩)⟩)⟩)⟩)⟩)) (nats_cons (memZ_ok (f := 49) rfl (List.forall_mem_cons.2 ⟨m13_ok, (List.forall_mem_cons.2 ⟨m14_ok, (fun _ h => by cases h)⟩)⟩)) (nats_cons (memZ_ok (f := 50) rfl (List.forall_mem_cons.2 ⟨m15_ok, (List.forall_mem_cons.2 ⟨m16_ok, (List.forall_mem_cons.2 ⟨m17_ok, (List.forall_mem_cons.2 ⟨m18_ok, (List.forall_mem_cons.2 ⟨m19_ok, (List.forall_mem_cons.2 ⟨m20_ok, (fun _ h => by cases h)⟩)⟩)⟩)⟩)⟩)⟩)) (nats_cons (memZ_ok (f := 73) rfl (List.forall_mem_cons.2 ⟨m0_ok, (fun _ h => by cases h)⟩)) (nats_cons (memZ_ok (f := 74) rfl (List.forall_mem_cons.2 ⟨m25_ok, (fun _ h => by cases h)⟩)) (nats_cons (memZ_ok (f := 87) rfl (List.forall_mem_cons.2 ⟨m1_ok, (fun _ h => by cases h)⟩)) (nats_cons (memZ_ok (f := 88) rfl (List.forall_mem_cons.2 ⟨m10_ok, (List.forall_mem_cons.2 ⟨m11_ok, (List.forall_mem_cons.2 ⟨m12_ok, (fun _ h => by cases h)⟩)⟩)⟩)) (nats_cons (memZ_ok (f := 95) rfl (List.forall_mem_cons.2 ⟨m22_ok, (fun _ h => by cases h)⟩)) (nats_cons (memZ_ok (f := 102) rfl (List.forall_mem_cons.2 ⟨m23_ok, (fun _ h => by cases h)⟩)) (nats_cons (memZ_ok (f := 113) rfl (List.forall_mem_cons.2 ⟨m21_ok, (fun _ h => by cases h)⟩)) (nats_cons (memZ_ok (f := 116) rfl (List.forall_mem_cons.2 ⟨m9_ok, (fun _ h => by cases h)⟩)) (nats_cons (memZ_ok (f := 145) rfl (List.forall_mem_cons.2 ⟨m24_ok, (fun _ h => by cases h)⟩)) (nats_cons (memZ_ok (f := 167) rfl (List.forall_mem_cons.2 ⟨m26_ok, (fun _ h => by cases h)⟩)) (nats_nil look)))))))))))))))
theorem m27_ok : MemOK (fun f => afs[f]?) 72 m27 := mem_run (m := m27) lk4_ok r27
theorem lk5_ok : ∀ f, ZEok (fun f => afs[f]?) f (lk5 f) := (nats_cons (memZ_ok (f := 2) rfl (List.forall_mem_cons.2 ⟨m2_ok, (fun _ h => by cases h)⟩)) (nats_cons (memZ_ok (f := 45) rfl (List.forall_mem_cons.2 ⟨m3_ok, (List.forall_mem_cons.2 ⟨m4_ok, (List.forall_mem_cons.2 ⟨m5_ok, (List.forall_mem_cons.2 ⟨m6_ok, (List.forall_mem_cons.2 ⟨m7_ok, (List.forall_mem_cons.2 ⟨m8_ok, (fun _ h => by cases h)⟩)⟩)⟩)⟩)⟩)⟩)) (nats_cons (memZ_ok (f := 49) rfl (List.forall_mem_cons.2 ⟨m13_ok, (List.forall_mem_cons.2 ⟨m14_ok, (fun _ h => by cases h)⟩)⟩)) (nats_cons (memZ_ok (f := 50) rfl (List.forall_mem_cons.2 ⟨m15_ok, (List.forall_mem_cons.2 ⟨m16_ok, (List.forall_mem_cons.2 ⟨m17_ok, (List.forall_mem_cons.2 ⟨m18_ok, (List.forall_mem_cons.2 ⟨m19_ok, (List.forall_mem_cons.2 ⟨m20_ok, (fun _ h => by cases h)⟩)⟩)⟩)⟩)⟩)⟩)) (nats_cons (memZ_ok (f := 72) rfl (List.forall_mem_cons.2 ⟨m27_ok, (fun _ h => by cases h)⟩)) (nats_cons (memZ_ok (f := 73) rfl (List.forall_mem_cons.2 ⟨m0_ok, (fun _ h => by cases h)⟩)) (nats_cons (memZ_ok (f := 74) rfl (List.forall_mem_cons.2 ⟨m25_ok, (fun _ h => by cases h)⟩)) (nats_cons (memZ_ok (f := 87) rfl (List.forall_mem_cons.2 ⟨m1_ok, (fun _ h => by cases h)⟩)) (nats_cons (memZ_ok (f := 88) rfl (List.forall_mem_cons.2 ⟨m10_ok, (List.forall_mem_cons.2 ⟨m11_ok, (List.forall_mem_cons.2 ⟨m12_ok, (fun _ h => by cases h)⟩)⟩)⟩)) (nats_cons (memZ_ok (f := 95) rfl (List.forall_mem_cons.2 ⟨m22_ok, (fun _ h => by cases h)⟩)) (nats_cons (memZ_ok (f := 102) rfl (List.forall_mem_cons.2 ⟨m23_ok, (fun _ h => by cases h)⟩)) (nats_cons (memZ_ok (f := 113) rfl (List.forall_mem_cons.2 ⟨m21_ok, (fun _ h => by cases h)⟩)) (nats_cons (memZ_ok (f := 116) rfl (List.forall_mem_cons.2 ⟨m9_ok, (fun _ h => by cases h)⟩)) (nats_cons (memZ_ok (f := 145) rfl (List.forall_mem_cons.2 ⟨m24_ok, (fun _ h => by cases h)⟩)) (nats_cons (memZ_ok (f := 167) rfl (List.forall_mem_cons.2 ⟨m26_ok, (fun _ h => by cases h)⟩)) (nats_nil look))))))))))))))))
theorem m28_ok : MemOK (fun f => afs[f]?) 169 m28 := mem_run (m := m28) lk5_ok r28
theorem lk6_ok : ∀ f, ZEok (fun f => afs[f]?) f (lk6 f) := (nats_cons (memZ_ok (f := 2) rfl (List.forall_mem_cons.2 ⟨m2_ok, (fun _ h => by cases h)⟩)) (nats_cons (memZ_ok (f := 45) rfl (List.forall_mem_cons.2 ⟨m3_ok, (List.forall_mem_cons.2 ⟨m4_ok, (List.forall_mem_cons.2 ⟨m5_ok, (List.forall_mem_cons.2 ⟨m6_ok, (List.forall_mem_cons.2 ⟨m7_ok, (List.forall_mem_cons.2 ⟨m8_ok, (fun _ h => by cases h)⟩)⟩)⟩)⟩)⟩)⟩)) (nats_cons (memZ_ok (f := 49) rfl (List.forall_mem_cons.2 ⟨m13_ok, (List.forall_mem_cons.2 ⟨m14_ok, (fun _ h => by cases h)⟩)⟩)) (nats_cons (memZ_ok (f := 50) rfl (List.forall_mem_cons.2 ⟨m15_ok, (List.forall_mem_cons.2 ⟨m16_ok, (List.forall_mem_cons.2 ⟨m17_ok, (List.forall_mem_cons.2 ⟨m18_ok, (List.forall_mem_cons.2 ⟨m19_ok, (List.forall_mem_cons.2 ⟨m20_ok, (fun _ h => by cases h)⟩)⟩)⟩)⟩)⟩)⟩)) (nats_cons (memZ_ok (f := 72) rfl (List.forall_mem_cons.2 ⟨m27_ok, (fun _ h => by cases h)⟩)) (nats_cons (memZ_ok (f := 73) rfl (List.forall_mem_cons.2 ⟨m0_ok, (fun _ h => by cases h)⟩)) (nats_cons (memZ_ok (f := 74) rfl (List.forall_mem_cons.2 ⟨m25_ok, (fun _ h => by cases h)⟩)) (nats_cons (memZ_ok (f := 87) rfl (List.forall_mem_cons.2 ⟨m1_ok, (fun _ h => by cases h)⟩)) (nats_cons (memZ_ok (f := 88) rfl (List.forall_mem_cons.2 ⟨m10_ok, (List.forall_mem_cons.2 ⟨m11_ok, (List.forall_mem_cons.2 ⟨m12_ok, (fun _ h => by cases h)⟩)⟩)⟩)) (nats_cons (memZ_ok (f := 95) rfl (List.forall_mem_cons.2 ⟨m22_ok, (fun _ h => by cases h)⟩)) (nats_cons (memZ_ok (f := 102) rfl (List.forall_mem_cons.2 ⟨m23_ok, (fun _ h => by cases h)⟩)) (nats_cons (memZ_ok (f := 113) rfl (List.forall_mem_cons.2 ⟨m21_ok, (fun _ h => by cases h)⟩)) (nats_cons (memZ_ok (f := 116) rfl (List.forall_mem_cons.2 ⟨m9_ok, (fun _ h => by cases h)⟩)) (nats_cons (memZ_ok (f := 145) rfl (List.forall_mem_cons.2 ⟨m24_ok, (fun _ h => by cases h)⟩)) (nats_cons (memZ_ok (f := 167) rfl (List.forall_mem_cons.2 ⟨m26_ok, (fun _ h => by cases h)⟩)) (nats_cons (memZ_ok (f := 169) rfl (List.forall_mem_cons.2 ⟨m28_ok, (fun _ h => by cases h)⟩)) (nats_nil look)))))))))))))))))
theorem begunIs : evC (fun f => afs[f]?) 170 [] heap0 = some (.ret (.bool true) heap0) := by
  obtain ⟨H, h⟩ := tru_ret begunRun
  have h2 := runZ_ret lk6_ok (w := .nil) (H := ZH.none) trivial h
  have h3 := pure_ret (af := a170) rfl rfl h2
  rw [h3] at h2
  exact h2
theorem beg_ok : ZEok (fun f => afs[f]?) 170 onceZ := once_ok begunIs
theorem lkB_ok : ∀ f, ZEok (fun f => afs[f]?) f (lkB f) := (nats_cons beg_ok (nats_cons (memZ_ok (f := 2) rfl (List.forall_mem_cons.2 ⟨m2_ok, (fun _ h => by cases h)⟩)) (nats_cons (memZ_ok (f := 45) rfl (List.forall_mem_cons.2 ⟨m3_ok, (List.forall_mem_cons.2 ⟨m4_ok, (List.forall_mem_cons.2 ⟨m5_ok, (List.forall_mem_cons.2 ⟨m6_ok, (List.forall_mem_cons.2 ⟨m7_ok, (List.forall_mem_cons.2 ⟨m8_ok, (fun _ h => by cases h)⟩)⟩)⟩)⟩)⟩)⟩)) (nats_cons (memZ_ok (f := 49) rfl (List.forall_mem_cons.2 ⟨m13_ok, (List.forall_mem_cons.2 ⟨m14_ok, (fun _ h => by cases h)⟩)⟩)) (nats_cons (memZ_ok (f := 50) rfl (List.forall_mem_cons.2 ⟨m15_ok, (List.forall_mem_cons.2 ⟨m16_ok, (List.forall_mem_cons.2 ⟨m17_ok, (List.forall_mem_cons.2 ⟨m18_ok, (List.forall_mem_cons.2 ⟨m19_ok, (List.forall_mem_cons.2 ⟨m20_ok, (fun _ h => by cases h)⟩)⟩)⟩)⟩)⟩)⟩)) (nats_cons (memZ_ok (f := 72) rfl (List.forall_mem_cons.2 ⟨m27_ok, (fun _ h => by cases h)⟩)) (nats_cons (memZ_ok (f := 73) rfl (List.forall_mem_cons.2 ⟨m0_ok, (fun _ h => by cases h)⟩)) (nats_cons (memZ_ok (f := 74) rfl (List.forall_mem_cons.2 ⟨m25_ok, (fun _ h => by cases h)⟩)) (nats_cons (memZ_ok (f := 87) rfl (List.forall_mem_cons.2 ⟨m1_ok, (fun _ h => by cases h)⟩)) (nats_cons (memZ_ok (f := 88) rfl (List.forall_mem_cons.2 ⟨m10_ok, (List.forall_mem_cons.2 ⟨m11_ok, (List.forall_mem_cons.2 ⟨m12_ok, (fun _ h => by cases h)⟩)⟩)⟩)) (nats_cons (memZ_ok (f := 95) rfl (List.forall_mem_cons.2 ⟨m22_ok, (fun _ h => by cases h)⟩)) (nats_cons (memZ_ok (f := 102) rfl (List.forall_mem_cons.2 ⟨m23_ok, (fun _ h => by cases h)⟩)) (nats_cons (memZ_ok (f := 113) rfl (List.forall_mem_cons.2 ⟨m21_ok, (fun _ h => by cases h)⟩)) (nats_cons (memZ_ok (f := 116) rfl (List.forall_mem_cons.2 ⟨m9_ok, (fun _ h => by cases h)⟩)) (nats_cons (memZ_ok (f := 145) rfl (List.forall_mem_cons.2 ⟨m24_ok, (fun _ h => by cases h)⟩)) (nats_cons (memZ_ok (f := 167) rfl (List.forall_mem_cons.2 ⟨m26_ok, (fun _ h => by cases h)⟩)) (nats_cons (memZ_ok (f := 169) rfl (List.forall_mem_cons.2 ⟨m28_ok, (fun _ h => by cases h)⟩)) (nats_nil look))))))))))))))))))
theorem all0    : ∃ H', evC (fun f => afs[f]?) 172 [] heap0 = some (.ret (.bool true) H') := by
  obtain ⟨Hr, h0⟩ := tru_ret (run0)
  have h0 := runZ_ret lkB_ok (w := .nil) (H := ZH.none) trivial h0
  have g0 : evC (fun f => afs[f]?) 172 [] heap0 = some (.ret (.bool true) Hr.heap) := h0
  exact ⟨_, g0⟩
end Ey.Tr
namespace Go.Proofs.YtcbmfmdmmbcehaaGreat.tableReads
open Go Go.ChangeShapes Go.WideShapes Go.ChangeAt Go.RowKit
theorem own : ownKnob Tryz.prog.godebug = none := by kernel_rfl
theorem walk   (W : World) (hw : ∀ b o v, Ey.Tr.cx.gl b o = some v → W.cell? ⟨b, o, none⟩ = some v ∧ b < W.heap.size) : Calls Tryz.prog 5 #[] W fun e w' => e = .returned (.bool true) ∧ Below W.heap.size W w' := by
  obtain ⟨H', h⟩ := Ey.Tr.all0  
  exact Ey.args_calls Ey.Tr.known (f := 172) (fid := 5) rfl (vs := []) rfl (fun g => Ey.vr_ints [] g) h W hw
theorem lifted (os : Os) (started : os.Started) (H : Type) (enc : TypeId × Value → H) :
    ReturnsInHanded {} Tryz.checked os 5 .any (Rows.tableReadsSpec.pre6 enc Tryz.prog Tryz.f5 Rows.tableReadsRow.domain false) (Rows.tableReadsSpec.post enc Tryz.prog Tryz.f5 false true false false) := by
  refine returnsInHanded_of_change (C := Tryz.checked) own started (by kernel_rfl) Tryz.func5
    (ChangeSpec.witness6 (enc := enc) (C := Tryz.checked) false ⟨#[], #[], []⟩ 8 (by kernel_rfl) (by kernel_rfl) (by kernel_rfl) (by kernel_rfl)) ?_
  intro W base args ds gs before hval0 hW _ _
  have hval : ∀ (j : Nat) t v, Tryz.f5.params[j]? = some t → args[j]? = some v → Value.okWide Tryz.prog W .any base t v := hval0
  have hW' := hW
  obtain ⟨p, q, hA0, hV, rfl, _, _⟩ := hW
  have hA : DataW.TrodAll enc Tryz.prog W 0 (fun _ => true) true Tryz.f5.params.toList args.toList ds p := hA0
  rw [Tryz.params5] at hA hval
  obtain ⟨rfl, rfl, rfl⟩ := trodAll_none hA
  obtain ⟨rfl, rfl⟩ := trodVars_none hV
  clear hA0 hval0
  simp only [List.append_nil] at hW'
  refine (walk   W (fun b o v h => by simp [Ey.Tr.cx, Ey.glf] at h)).mono fun e W' ⟨he, hb⟩ => ?_
  subst he
  exact ⟨_, rfl, Ey.post_low (pa := []) (pv := []) hW' (fun _ _ _ => trodAll_mk1 (shut_bool Tryz.underlying4 _)) (fun sp _ => rfl) (fun _ _ => rfl) rfl hb (ok_one (by kernel_rfl) rfl (okWide_bool_mk Tryz.underlying4 _))⟩
theorem over : Rows.TableReadsSaid :=
  OpenClaim.holds_of_wide 5 Tryz.f5 rfl rfl rfl rfl rfl rfl rfl ⟨rfl, rfl, rfl, rfl, rfl⟩ rfl rfl rfl rfl rfl (by kernel_rfl) Tryz.func5 facts
    (of_decide_eq_true (by kernel_rfl)) (by unfold Func.isWrapper; first | (rw [if_pos (by decide +kernel)]; kernel_rfl) | (rw [if_neg (by decide +kernel)]; exact ⟨rfl, rfl⟩))
    (fun os started H enc _ => lifted os started H enc)
/-- the statement -/
theorem proved : Rows.TableReadsSaid := over
end Go.Proofs.YtcbmfmdmmbcehaaGreat.tableReads
