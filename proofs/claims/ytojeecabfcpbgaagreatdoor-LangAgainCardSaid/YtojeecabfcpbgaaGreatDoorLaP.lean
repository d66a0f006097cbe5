/- The statement Rows.LangAgainCardSaid is proved, under no condition, by a run of the law's functions at one argument of each remainder. -/
import Derived.Test.YtojeecabfcpbgaaGreatDoorLaQ0
import Derived.Test.YtojeecabfcpbgaaGreatDoorLaQ1
import Derived.Test.YtojeecabfcpbgaaGreatDoorLaQ2
import Derived.Test.YtojeecabfcpbgaaGreatDoorLaF
import Derived.Test.YtojeecabfcpbgaaGreatDoorLaR0
import Derived.Test.YtojeecabfcpbgaaGreatDoorLaR1
import Derived.Test.YtojeecabfcpbgaaGreatDoorLaR2
import Derived.Test.YtojeecabfcpbgaaGreatDoorLaR3
import Derived.Test.YtojeecabfcpbgaaGreatDoorLaR4
import Derived.Test.YtojeecabfcpbgaaGreatDoorLaR5
import Derived.Test.YtojeecabfcpbgaaGreatDoorLaR6
import Derived.Test.YtojeecabfcpbgaaGreatDoorLaC
import Derived.Test.YtojeecabfcpbgaaGreatDoorEyB4
import Derived.ProofKit
import Derived.OpenShut
import Derived.Test.YtojeecabfcpbgaaGreatDoorTie
import Derived.Test.YtojeecabfcpbgaaGreatDoorCards
import Derived.SevenTiedAt
set_option maxRecDepth 1000000
namespace Ey.La
open Go (IntKind)
abbrev MO (f : Nat) (m : Mem) : Prop := MemOK (fun f => afs[f]?) f m
abbrev ZO (f : Nat) (z : ZE) : Prop := ZEok (fun f => afs[f]?) f z
theorem mz {f : Nat} : ∀ m ∈ ([] : List Mem), MO f m := fun _ h => by cases h
theorem mc {f : Nat} {m : Mem} {l : List Mem} (h : MO f m) (t : ∀ x ∈ l, MO f x) : ∀ x ∈ m :: l, MO f x := List.forall_mem_cons.2 ⟨h, t⟩
theorem lk0_ok : ∀ f, ZO f (lk0 f) := (nats_nil look)
theorem k0 : MO 114 m0 := mem_run lk0_ok r0
theorem k1 : MO 139 m1 := mem_run lk0_ok r1
theorem k2 : MO 114 m2 := mem_run lk0_ok r2
theorem k3 : MO 139 m3 := mem_run lk0_ok r3
theorem k4 : MO 142 m4 := mem_run lk0_ok r4
theorem k5 : MO 217 m5 := mem_run lk0_ok r5
theorem lk1_ok : ∀ f, ZO f (lk1 f) := (nats_cons (memZ_ok (f := 114) rfl (mc k0 (mc k2 mz))) (nats_cons (memZ_ok (f := 139) rfl (mc k1 (mc k3 mz))) (nats_cons (memZ_ok (f := 142) rfl (mc k4 mz)) (nats_cons (memZ_ok (f := 217) rfl (mc k5 mz)) (nats_nil look)))))
theorem k6 : MO 217 m6 := mem_run lk1_ok r6
theorem k7 : MO 184 m7 := mem_run lk1_ok r7
theorem k8 : MO 114 m8 := mem_run lk1_ok r8
theorem lk2_ok : ∀ f, ZO f (lk2 f) := (nats_cons (memZ_ok (f := 114) rfl (mc k0 (mc k2 (mc k8 mz)))) (nats_cons (memZ_ok (f := 139) rfl (mc k1 (mc k3 mz))) (nats_cons (memZ_ok (f := 142) rfl (mc k4 mz)) (nats_cons (memZ_ok (f := 184) rfl (mc k7 mz)) (nats_cons (memZ_ok (f := 217) rfl (mc k5 (mc k6 mz))) (nats_nil look))))))
theorem k9 : MO 114 m9 := mem_run lk2_ok r9
theorem k10 : MO 114 m10 := mem_run lk2_ok r10
theorem k11 : MO 217 m11 := mem_run lk2_ok r11
theorem lk3_ok : ∀ f, ZO f (lk3 f) := (nats_cons (memZ_ok (f := 114) rfl (mc k0 (mc k2 (mc k8 (mc k9 (mc k10 mz)))))) (nats_cons (memZ_ok (f := 139) rfl (mc k1 (mc k3 mz))) (nats_cons (memZ_ok (f := 142) rfl (mc k4 mz)) (nats_cons (memZ_ok (f := 184) rfl (mc k7 mz)) (nats_cons (memZ_ok (f := 217) rfl (mc k5 (mc k6 (mc k11 mz)))) (nats_nil look))))))
theorem k12 : MO 114 m12 := mem_run lk3_ok r12
theorem k13 : MO 114 m13 := mem_run lk3_ok r13
theorem lk4_ok : ∀ f, ZO f (lk4 f) := (nats_cons (memZ_ok (f := 114) rfl (mc k0 (mc k2 (mc k8 (mc k9 (mc k10 (mc k12 (mc k13 mz)))))))) (nats_cons (memZ_ok (f := 139) rfl (mc k1 (mc k3 mz))) (nats_cons (memZ_ok (f := 142) rfl (mc k4 mz)) (nats_cons (memZ_ok (f := 184) rfl (mc k7 mz)) (nats_cons (memZ_ok (f := 217) rfl (mc k5 (mc k6 (mc k11 mz)))) (nats_nil look))))))
theorem begunIs : evC (fun f => afs[f]?) 112 [] heap0 = some (.ret (.bool true) heap0) := by
  obtain ⟨H, h⟩ := tru_ret begunRun
  have h2 := runZ_ret lk4_ok (w := .nil) (H := ZH.none) trivial h
  have h3 := pure_ret (af := a112) rfl rfl h2
  rw [h3] at h2
  exact h2
theorem beg_ok : ZEok (fun f => afs[f]?) 112 onceZ := once_ok begunIs
theorem lkB_ok : ∀ f, ZO f (lkB f) := (nats_cons beg_ok (nats_cons (memZ_ok (f := 114) rfl (mc k0 (mc k2 (mc k8 (mc k9 (mc k10 (mc k12 (mc k13 mz)))))))) (nats_cons (memZ_ok (f := 139) rfl (mc k1 (mc k3 mz))) (nats_cons (memZ_ok (f := 142) rfl (mc k4 mz)) (nats_cons (memZ_ok (f := 184) rfl (mc k7 mz)) (nats_cons (memZ_ok (f := 217) rfl (mc k5 (mc k6 (mc k11 mz)))) (nats_nil look)))))))
theorem cg113 (a : Nat) (ha : a < 9223372036854775808) (kind : IntKind) (H : Heap) (v : AV) (H' : Heap) (h : evC (fun f => afs[f]?) 113 [.int kind ((a % 5 : Nat) : Int)] H = some (.ret v H')) : evC (fun f => afs[f]?) 113 [.int kind (a : Int)] H = some (.ret v H') :=
  evC_cg (D := [0, 6, 7]) (M := [5]) (F := []) ⟨⟨wrap_small (by omega), wrap_small (by omega)⟩, fun m hm => by simp only [List.mem_singleton] at hm; subst hm; exact ⟨by decide, tmod_cast a 5⟩, fun f hf => by cases hf⟩ (af := a113) rfl (by kernel_rfl) (by kernel_rfl) (p := 0) (k := kind) rfl rfl (fun s hs => by simp at hs; simp only [List.length_cons, List.length_nil]; omega) h
theorem run0 (n : Nat) (hn : n < 5) : (fun a : Nat => tru (callZ lkB 100000 220 (.one (.u 0 a) .nil) ZH.none)) n = true := by
  match n, hn with
  | 0, _ => exact run0_0
  | 1, _ => exact run0_1
  | 2, _ => exact run0_2
  | 3, _ => exact run0_3
  | 4, _ => exact run0_4
  | n + 5, h => exact absurd h (by omega)
theorem all0 (a : Nat) (ha : a < 256)  : ∃ H', evC (fun f => afs[f]?) 220 [.int .u8 (a : Int)] heap0 = some (.ret (.bool true) H') := by
  have ra := run0 (a % 5) (Nat.mod_lt _ (by decide))
  obtain ⟨Hr, h0⟩ := tru_ret (ra)
  have h0 := runZ_ret lkB_ok (w := .one (.u 0 (a % 5)) .nil) (H := ZH.none) trivial h0
  have g0 : evC (fun f => afs[f]?) 220 [.int .u8 ((a % 5 : Nat) : Int)] heap0 = some (.ret (.bool true) Hr.heap) := h0
  have g1 : evC (fun f => afs[f]?) 220 [.int .u8 (a : Int)] heap0 = some (.ret (.bool true) Hr.heap) := evC_cg (D := [0, 17]) (M := []) (F := [113]) (vs := [.int .u8 ((a % 5 : Nat) : Int)]) ⟨⟨wrap_small (by omega), wrap_small (by omega)⟩, (fun m hm => by cases hm), fun f hf => by simp only [List.mem_singleton] at hf; subst hf; exact cg113 a (by omega)⟩ (af := a220) rfl (by kernel_rfl) (by kernel_rfl) (p := 0) (k := .u8) (b := (a : Int)) rfl rfl (fun s hs => by simp at hs; simp only [List.length_cons, List.length_nil]; omega) g0
  exact ⟨_, g1⟩
end Ey.La
namespace Go.Proofs.YtojeecabfcpbgaaGreatDoor.langAgain
open Go Go.ChangeShapes Go.WideShapes Go.ChangeAt Go.RowKit
theorem own : ownKnob Tryz.prog.godebug = none := by kernel_rfl
theorem walk (a : Nat) (ha : a < 256) (W : World) (hw : ∀ b o v, Ey.La.cx.gl b o = some v → W.cell? ⟨b, o, none⟩ = some v ∧ b < W.heap.size) : Calls Tryz.prog 4 #[.int .u8 (a : Int)] W fun e w' => e = .returned (.bool true) ∧ Below W.heap.size W w' := by
  obtain ⟨H', h⟩ := Ey.La.all0 a ha
  exact Ey.args_calls Ey.La.known (f := 220) (fid := 4) rfl (vs := [.int .u8 (a : Int)]) rfl (fun g => Ey.vr_ints [(.u8, (a : Int))] g) h W hw
theorem gl_ok {W : World} (hL : laidMetH Tryz.prog Rows.langAgainRow.laid W) : ∀ b o v, Ey.La.cx.gl b o = some v → W.cell? ⟨b, o, none⟩ = some v ∧ b < W.heap.size := by
  rw [MakeChecks.laidMetH_plain _ _ _ (by kernel_rfl)] at hL
  have t0 : Lib.TabIs Tryz.prog W "math/bits.deBruijn64tab" .u8 [0, 1, 56, 2, 57, 49, 28, 3, 61, 58, 42, 50, 38, 29, 17, 4, 62, 47, 59, 36, 45, 43, 51, 22, 53, 39, 33, 30, 24, 18, 12, 5, 63, 55, 48, 27, 60, 41, 37, 16, 46, 35, 44, 21, 52, 32, 23, 11, 54, 26, 40, 15, 34, 20, 31, 10, 25, 14, 19, 9, 13, 8, 7, 6] := Lib.tabIs_of_head (g := 1) (t := 311) (e := 5) (n := 64) (by kernel_rfl) (by kernel_rfl) Tryz.underlying311 Tryz.underlying5 (by kernel_rfl) (by kernel_rfl) (laidMet.tail hL)
  exact Ey.gl_cons t0 (by kernel_rfl) rfl (Ey.gl_nil W)
noncomputable def start (os : Os) : World := Ey.startWith Tryz.prog 72 [(3, Pinned.utf8FirstZ)] os
theorem start_met (os : Os) (args : Array Value) : laidMetH Tryz.prog Rows.langAgainRow.laid (((start os).forCall (fun _ _ => 0) ⟨#[], args, []⟩).memory) :=
  laidMetH_of_parts3 (fuel := 8) (laidMet_of_run' 8 (by kernel_rfl) (by kernel_rfl)) (by kernel_rfl) (by kernel_rfl)
theorem lifted (os : Os) (started : os.Started) (H : Type) (enc : TypeId × Value → H) :
    ReturnsInHanded {} Tryz.checked os 4 .any (fun w args => (Rows.langAgainSpec.pre enc Tryz.prog Tryz.f4 [] false w args ∧ laidMetH Tryz.prog Rows.langAgainRow.laid w) ∧ sizedMet enc Tryz.prog Tryz.f4 (OpenSpec.ofChange Rows.langAgainSpec) false w args)
      (Rows.langAgainSpec.post enc Tryz.prog Tryz.f4 false true false false) := by
  refine returnsInHanded_of_change_and (C := Tryz.checked) (X := fun w _ => laidMetH Tryz.prog Rows.langAgainRow.laid w) (fun _ _ _ hh h => h.of_heap hh) own started (by kernel_rfl) Tryz.func4
    (ChangeSpec.witness_shaped (enc := enc) (C := Tryz.checked) (os := os) (X := fun w _ => laidMetH Tryz.prog Rows.langAgainRow.laid w) false (start os) #[.int .u8 0] 8 rfl (World.shaped_of_RefB (by kernel_rfl) (by kernel_rfl)) (by kernel_rfl) (by kernel_rfl) (by kernel_rfl) (start_met os _)) ?_
  intro W base args ds gs before hval0 hW _ _ hL _
  have hval : ∀ (j : Nat) t v, Tryz.f4.params[j]? = some t → args[j]? = some v → Value.okWide Tryz.prog W .any base t v := hval0
  have hW' := hW
  obtain ⟨p, q, hA0, hV, rfl, _, _⟩ := hW
  have hA : DataW.TrodAll enc Tryz.prog W 0 (fun _ => true) true Tryz.f4.params.toList args.toList ds p := hA0
  rw [Tryz.params4] at hA hval
  obtain ⟨v0, d0, rfl, rfl, h0⟩ := trodAll_one hA
  obtain ⟨rfl, rfl⟩ := trodVars_none hV
  obtain ⟨z0, rfl, rfl, rfl, w0⟩ := open_int Tryz.underlying5 (hval 0 5 v0 rfl rfl) h0
  clear hA0 hval0
  simp only [List.append_nil] at hW'
  obtain ⟨a, ha, rfl⟩ : ∃ a : Nat, a < 256 ∧ z0 = (a : Int) := by
    have hz : 0 ≤ z0 ∧ z0 ≤ 255 := by simpa [Lit.wf, IntKind.min, IntKind.max, IntKind.signed, IntKind.bits] using w0
    exact ⟨z0.toNat, by omega, by omega⟩
  refine (walk a ha W (gl_ok hL)).mono fun e W' ⟨he, hb⟩ => ?_
  subst he
  exact ⟨_, rfl, Ey.post_low (pa := []) (pv := []) hW' (fun _ _ _ => trodAll_mk1 (shut_bool Tryz.underlying4 _)) (fun sp _ => trodAll_mk1 (shut_int Tryz.underlying5 w0)) (fun _ _ => rfl) rfl hb (ok_one (by kernel_rfl) rfl (okWide_bool_mk Tryz.underlying4 _))⟩
theorem over : Rows.LangAgainSaid :=
  OpenClaim.holds_of_wide 4 Tryz.f4 rfl rfl rfl rfl rfl rfl rfl ⟨rfl, rfl, rfl, rfl, rfl⟩ rfl rfl rfl rfl rfl (by kernel_rfl) Tryz.func4 facts
    (of_decide_eq_true (by kernel_rfl)) (by unfold Func.isWrapper; first | (rw [if_pos (by decide +kernel)]; kernel_rfl) | (rw [if_neg (by decide +kernel)]; exact ⟨rfl, rfl⟩))
    (fun os started H enc _ => lifted os started H enc)
/-- the statement -/
theorem proved : Rows.LangAgainCardSaid :=
  Claim7.holds_tied_plain_at .later [] [.data, .data, .data, .data, .sentinel, .sentinel, .pinned] true (true, "370cc99535b6b9d1d98371289c53701bfca2f85fa83ccea5e3d83f7b2eec2cce") true
    over (fun _ h => by cases h) (by kernel_rfl) (fun _ h => by cases h) langAgain_row_tie rfl ⟨rfl, rfl⟩ (by kernel_rfl) rfl
    (fun f fn hf hfn => by
      obtain rfl : f = 4 := Option.some.inj ((show Tryz.prog.funcNamed "eyot/eyotlaw22.LangAgain" = some 4 by kernel_rfl).symm.trans hf) |>.symm
      obtain rfl : fn = Tryz.f4 := (Option.some.inj (Tryz.func4.symm.trans hfn)).symm
      exact ⟨by kernel_rfl, fun j t ht => by
        rw [Tryz.params4] at ht
        have hm : t ∈ [5] := by simpa using Array.mem_of_getElem? ht
        have hall : ([5].all fun u => !Tryz.prog.wantsStandIn u) = true := by kernel_rfl
        exact (show Tryz.prog.wantsStandIn t = false by simpa using List.all_eq_true.1 hall t hm)⟩)
    (by kernel_rfl)
end Go.Proofs.YtojeecabfcpbgaaGreatDoor.langAgain
