/- The statement Rows.LangFirstCardSaid, that the law answers true whatever its arguments, is proved, under no condition: the law's functions are held against code of a small language of our own (YtdkddodpioepdaaGreatDoorLfC), whose evaluator the kernel runs at one argument of each remainder. -/
import Derived.Test.YtdkddodpioepdaaGreatDoorLfQ0
import Derived.Test.YtdkddodpioepdaaGreatDoorLfQ1
import Derived.Test.YtdkddodpioepdaaGreatDoorLfF
import Derived.Test.YtdkddodpioepdaaGreatDoorLfR0
import Derived.Test.YtdkddodpioepdaaGreatDoorLfR1
import Derived.Test.YtdkddodpioepdaaGreatDoorLfR2
import Derived.Test.YtdkddodpioepdaaGreatDoorLfR3
import Derived.Test.YtdkddodpioepdaaGreatDoorLfR4
import Derived.Test.YtdkddodpioepdaaGreatDoorLfC
import Derived.Test.YtdkddodpioepdaaGreatDoorEyB3
import Derived.ProofKit
import Derived.OpenShut
import Derived.Test.YtdkddodpioepdaaGreatDoorTie
import Derived.Test.YtdkddodpioepdaaGreatDoorCards
import Derived.SevenTiedAt
set_option maxRecDepth 1000000
namespace Ey.Lf
open Go (IntKind)
theorem begunIs : evC (fun f => afs[f]?) 99 [] heap0 = some (.ret (.bool true) heap0) := by
  obtain ⟨H, h⟩ := tru_ret begunRun
  have h2 := runZ_ret look (w := .nil) (H := ZH.none) trivial h
  have h3 := pure_ret (af := a99) rfl rfl h2
  rw [h3] at h2
  exact h2
theorem beg_ok : ZEok (fun f => afs[f]?) 99 onceZ := once_ok begunIs
theorem m0_ok : MemOK (fun f => afs[f]?) 101 m0 := mem_run (m := m0) (nats_cons beg_ok (nats_nil look)) r0
theorem m1_ok : MemOK (fun f => afs[f]?) 9 m1 := mem_run (m := m1) (nats_cons beg_ok (nats_cons (memZ_ok (f := 101) rfl (List.forall_mem_cons.2 ⟨m0_ok, (fun _ h => by cases h)⟩)) (nats_nil look))) r1
theorem m2_ok : MemOK (fun f => afs[f]?) 23 m2 := mem_run (m := m2) (nats_cons beg_ok (nats_cons (memZ_ok (f := 9) rfl (List.forall_mem_cons.2 ⟨m1_ok, (fun _ h => by cases h)⟩)) (nats_cons (memZ_ok (f := 101) rfl (List.forall_mem_cons.2 ⟨m0_ok, (fun _ h => by cases h)⟩)) (nats_nil look)))) r2
theorem m3_ok : MemOK (fun f => afs[f]?) 101 m3 := mem_run (m := m3) (nats_cons beg_ok (nats_cons (memZ_ok (f := 9) rfl (List.forall_mem_cons.2 ⟨m1_ok, (fun _ h => by cases h)⟩)) (nats_cons (memZ_ok (f := 23) rfl (List.forall_mem_cons.2 ⟨m2_ok, (fun _ h => by cases h)⟩)) (nats_cons (memZ_ok (f := 101) rfl (List.forall_mem_cons.2 ⟨m0_ok, (fun _ h => by cases h)⟩)) (nats_nil look))))) r3
theorem m4_ok : MemOK (fun f => afs[f]?) 101 m4 := mem_run (m := m4) (nats_cons beg_ok (nats_cons (memZ_ok (f := 9) rfl (List.forall_mem_cons.2 ⟨m1_ok, (fun _ h => by cases h)⟩)) (nats_cons (memZ_ok (f := 23) rfl (List.forall_mem_cons.2 ⟨m2_ok, (fun _ h => by cases h)⟩)) (nats_cons (memZ_ok (f := 101) rfl (List.forall_mem_cons.2 ⟨m0_ok, (List.forall_mem_cons.2 ⟨m3_ok, (fun _ h => by cases h)⟩)⟩)) (nats_nil look))))) r4
theorem lookM_ok : ∀ f, ZEok (fun f => afs[f]?) f ((natsZ [(99, onceZ), (9, .mem (memF [m1]) a9 n9.1 n9.2), (23, .mem (memF [m2]) a23 n23.1 n23.2), (101, .mem (memF [m0, m3, m4]) a101 n101.1 n101.2)] zs) f) := (nats_cons beg_ok (nats_cons (memZ_ok (f := 9) rfl (List.forall_mem_cons.2 ⟨m1_ok, (fun _ h => by cases h)⟩)) (nats_cons (memZ_ok (f := 23) rfl (List.forall_mem_cons.2 ⟨m2_ok, (fun _ h => by cases h)⟩)) (nats_cons (memZ_ok (f := 101) rfl (List.forall_mem_cons.2 ⟨m0_ok, (List.forall_mem_cons.2 ⟨m3_ok, (List.forall_mem_cons.2 ⟨m4_ok, (fun _ h => by cases h)⟩)⟩)⟩)) (nats_nil look)))))
theorem all0    : ∃ H', evC (fun f => afs[f]?) 188 [] heap0 = some (.ret (.bool true) H') := by
  obtain ⟨Hr, h0⟩ := tru_ret (run0)
  have h0 := runZ_ret lookM_ok (w := .nil) (H := ZH.none) trivial h0
  have g0 : evC (fun f => afs[f]?) 188 [] heap0 = some (.ret (.bool true) Hr.heap) := h0
  exact ⟨_, g0⟩
end Ey.Lf
namespace Go.Proofs.YtdkddodpioepdaaGreatDoor.langFirst
open Go Go.ChangeShapes Go.WideShapes Go.ChangeAt Go.RowKit
theorem own : ownKnob Tryz.prog.godebug = none := by kernel_rfl
theorem walk   (W : World) (hw : ∀ b o v, Ey.Lf.cx.gl b o = some v → W.cell? ⟨b, o, none⟩ = some v ∧ b < W.heap.size) : Calls Tryz.prog 5 #[] W fun e w' => e = .returned (.bool true) ∧ Below W.heap.size W w' := by
  obtain ⟨H', h⟩ := Ey.Lf.all0  
  exact Ey.args_calls Ey.Lf.known (f := 188) (fid := 5) rfl (vs := []) rfl (fun g => Ey.vr_ints [] g) h W hw
theorem gl_ok {W : World} (hL : laidMetH Tryz.prog Rows.langFirstRow.laid W) : ∀ b o v, Ey.Lf.cx.gl b o = some v → W.cell? ⟨b, o, none⟩ = some v ∧ b < W.heap.size := by
  rw [MakeChecks.laidMetH_plain _ _ _ (by kernel_rfl)] at hL
  have t0 : Lib.TabIs Tryz.prog W "math/bits.deBruijn64tab" .u8 [0, 1, 56, 2, 57, 49, 28, 3, 61, 58, 42, 50, 38, 29, 17, 4, 62, 47, 59, 36, 45, 43, 51, 22, 53, 39, 33, 30, 24, 18, 12, 5, 63, 55, 48, 27, 60, 41, 37, 16, 46, 35, 44, 21, 52, 32, 23, 11, 54, 26, 40, 15, 34, 20, 31, 10, 25, 14, 19, 9, 13, 8, 7, 6] := Lib.tabIs_of_head (g := 1) (t := 311) (e := 5) (n := 64) (by kernel_rfl) (by kernel_rfl) Tryz.underlying311 Tryz.underlying5 (by kernel_rfl) (by kernel_rfl) (laidMet.tail hL)
  exact Ey.gl_cons t0 (by kernel_rfl) rfl (Ey.gl_nil W)
noncomputable def start (os : Os) : World := Ey.startWith Tryz.prog 72 [(3, Pinned.utf8FirstZ)] os
theorem start_met (os : Os) (args : Array Value) : laidMetH Tryz.prog Rows.langFirstRow.laid (((start os).forCall (fun _ _ => 0) ⟨#[], args, []⟩).memory) :=
  laidMetH_of_parts3 (fuel := 8) (laidMet_of_run' 8 (by kernel_rfl) (by kernel_rfl)) (by kernel_rfl) (by kernel_rfl)
theorem lifted (os : Os) (started : os.Started) (H : Type) (enc : TypeId × Value → H) :
    ReturnsInHanded {} Tryz.checked os 5 .any (fun w args => (Rows.langFirstSpec.pre enc Tryz.prog Tryz.f5 [] false w args ∧ laidMetH Tryz.prog Rows.langFirstRow.laid w) ∧ sizedMet enc Tryz.prog Tryz.f5 (OpenSpec.ofChange Rows.langFirstSpec) false w args)
      (Rows.langFirstSpec.post enc Tryz.prog Tryz.f5 false true false false) := by
  refine returnsInHanded_of_change_and (C := Tryz.checked) (X := fun w _ => laidMetH Tryz.prog Rows.langFirstRow.laid w) (fun _ _ _ hh h => h.of_heap hh) own started (by kernel_rfl) Tryz.func5
    (ChangeSpec.witness_shaped (enc := enc) (C := Tryz.checked) (os := os) (X := fun w _ => laidMetH Tryz.prog Rows.langFirstRow.laid w) false (start os) #[] 8 rfl (World.shaped_of_RefB (by kernel_rfl) (by kernel_rfl)) (by kernel_rfl) (by kernel_rfl) (by kernel_rfl) (start_met os _)) ?_
  intro W base args ds gs before hval0 hW _ _ hL _
  have hval : ∀ (j : Nat) t v, Tryz.f5.params[j]? = some t → args[j]? = some v → Value.okWide Tryz.prog W .any base t v := hval0
  have hW' := hW
  obtain ⟨p, q, hA0, hV, rfl, _, _⟩ := hW
  have hA : DataW.TrodAll enc Tryz.prog W 0 (fun _ => true) true Tryz.f5.params.toList args.toList ds p := hA0
  rw [Tryz.params5] at hA hval
  obtain ⟨rfl, rfl, rfl⟩ := trodAll_none hA
  obtain ⟨rfl, rfl⟩ := trodVars_none hV
  clear hA0 hval0
  simp only [List.append_nil] at hW'
  refine (walk   W (gl_ok hL)).mono fun e W' ⟨he, hb⟩ => ?_
  subst he
  exact ⟨_, rfl, Ey.post_low (pa := []) (pv := []) hW' (fun _ _ _ => trodAll_mk1 (shut_bool Tryz.underlying4 _)) (fun sp _ => rfl) (fun _ _ => rfl) rfl hb (ok_one (by kernel_rfl) rfl (okWide_bool_mk Tryz.underlying4 _))⟩
theorem over : Rows.LangFirstSaid :=
  OpenClaim.holds_of_wide 5 Tryz.f5 rfl rfl rfl rfl rfl rfl rfl ⟨rfl, rfl, rfl, rfl, rfl⟩ rfl rfl rfl rfl rfl (by kernel_rfl) Tryz.func5 facts
    (of_decide_eq_true (by kernel_rfl)) (by unfold Func.isWrapper; first | (rw [if_pos (by decide +kernel)]; kernel_rfl) | (rw [if_neg (by decide +kernel)]; exact ⟨rfl, rfl⟩))
    (fun os started H enc _ => lifted os started H enc)
/-- the statement -/
theorem proved : Rows.LangFirstCardSaid :=
  Claim7.holds_tied_plain_at .later [] [.data, .data, .data, .data, .sentinel, .sentinel, .pinned] true (true, "3f5331254e398cda7894d34272d04274e530697de9d5ba8cb55850e9d099a3d4") true
    over (fun _ h => by cases h) (by kernel_rfl) (fun _ h => by cases h) langFirst_row_tie rfl ⟨rfl, rfl⟩ (by kernel_rfl) rfl
    (fun f fn hf hfn => by
      obtain rfl : f = 5 := Option.some.inj ((show Tryz.prog.funcNamed "eyot/eyotlaw22.LangFirst" = some 5 by kernel_rfl).symm.trans hf) |>.symm
      obtain rfl : fn = Tryz.f5 := (Option.some.inj (Tryz.func5.symm.trans hfn)).symm
      exact ⟨by kernel_rfl, fun j t ht => by
        rw [Tryz.params5] at ht
        have hm : t ∈ [] := by simpa using Array.mem_of_getElem? ht
        have hall : ([].all fun u => !Tryz.prog.wantsStandIn u) = true := by kernel_rfl
        exact (show Tryz.prog.wantsStandIn t = false by simpa using List.all_eq_true.1 hall t hm)⟩)
    (by kernel_rfl)
end Go.Proofs.YtdkddodpioepdaaGreatDoor.langFirst
