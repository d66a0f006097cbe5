/- The statement Rows.GtextSpacesCardSaid, that the law answers true whatever its arguments, is proved, under no condition: the law's functions are held against code of a small language of our own (YtjcnpcdcpfbpdaaGreatDoorGsC), whose evaluator the kernel runs at one argument of each remainder. -/
import Derived.Test.YtjcnpcdcpfbpdaaGreatDoorGsC
import Derived.Test.YtjcnpcdcpfbpdaaGreatDoorEyLaid
import Derived.ProofKit
import Derived.OpenShut
import Derived.Test.YtjcnpcdcpfbpdaaGreatDoorTie
import Derived.Test.YtjcnpcdcpfbpdaaGreatDoorCards
import Derived.SevenTiedAt
set_option maxRecDepth 1000000
namespace Ey.Gs
open Go (IntKind)
theorem begunRun : tru (callZ (lookZ zs) 100000 88 .nil ZH.none) = true := by kernel_rfl
theorem begunIs : evC (fun f => afs[f]?) 88 [] heap0 = some (.ret (.bool true) heap0) := by
  obtain ⟨H, h⟩ := tru_ret begunRun
  have h2 := runZ_ret look (w := .nil) (H := ZH.none) trivial h
  have h3 := pure_ret (af := a88) rfl rfl h2
  rw [h3] at h2
  exact h2
noncomputable def look2 : Nat → ZE := natsZ [(88, onceZ)] zs
theorem look2_ok (f : Nat) : ZEok (fun f => afs[f]?) f (look2 f) := nats_ok (look f) [(88, onceZ)] fun g e h => by
  simp only [List.mem_singleton, Prod.mk.injEq] at h
  obtain ⟨rfl, rfl⟩ := h
  exact once_ok begunIs
theorem run0_0 : (fun a : Nat => tru (callZ look2 100000 94 (.one (.u 1 a) .nil) ZH.none)) 0 = true := by kernel_rfl
theorem run0_1 : (fun a : Nat => tru (callZ look2 100000 94 (.one (.u 1 a) .nil) ZH.none)) 1 = true := by kernel_rfl
theorem run0_2 : (fun a : Nat => tru (callZ look2 100000 94 (.one (.u 1 a) .nil) ZH.none)) 2 = true := by kernel_rfl
theorem run0_3 : (fun a : Nat => tru (callZ look2 100000 94 (.one (.u 1 a) .nil) ZH.none)) 3 = true := by kernel_rfl
theorem run0_4 : (fun a : Nat => tru (callZ look2 100000 94 (.one (.u 1 a) .nil) ZH.none)) 4 = true := by kernel_rfl
theorem run0_5 : (fun a : Nat => tru (callZ look2 100000 94 (.one (.u 1 a) .nil) ZH.none)) 5 = true := by kernel_rfl
theorem run0_6 : (fun a : Nat => tru (callZ look2 100000 94 (.one (.u 1 a) .nil) ZH.none)) 6 = true := by kernel_rfl
theorem run0_7 : (fun a : Nat => tru (callZ look2 100000 94 (.one (.u 1 a) .nil) ZH.none)) 7 = true := by kernel_rfl
theorem run0_8 : (fun a : Nat => tru (callZ look2 100000 94 (.one (.u 1 a) .nil) ZH.none)) 8 = true := by kernel_rfl
theorem run0_9 : (fun a : Nat => tru (callZ look2 100000 94 (.one (.u 1 a) .nil) ZH.none)) 9 = true := by kernel_rfl
theorem run0_10 : (fun a : Nat => tru (callZ look2 100000 94 (.one (.u 1 a) .nil) ZH.none)) 10 = true := by kernel_rfl
theorem run0_11 : (fun a : Nat => tru (callZ look2 100000 94 (.one (.u 1 a) .nil) ZH.none)) 11 = true := by kernel_rfl
theorem run0_12 : (fun a : Nat => tru (callZ look2 100000 94 (.one (.u 1 a) .nil) ZH.none)) 12 = true := by kernel_rfl
theorem run0_13 : (fun a : Nat => tru (callZ look2 100000 94 (.one (.u 1 a) .nil) ZH.none)) 13 = true := by kernel_rfl
theorem run0_14 : (fun a : Nat => tru (callZ look2 100000 94 (.one (.u 1 a) .nil) ZH.none)) 14 = true := by kernel_rfl
theorem run0_15 : (fun a : Nat => tru (callZ look2 100000 94 (.one (.u 1 a) .nil) ZH.none)) 15 = true := by kernel_rfl
theorem run0_16 : (fun a : Nat => tru (callZ look2 100000 94 (.one (.u 1 a) .nil) ZH.none)) 16 = true := by kernel_rfl
theorem run0_17 : (fun a : Nat => tru (callZ look2 100000 94 (.one (.u 1 a) .nil) ZH.none)) 17 = true := by kernel_rfl
theorem run0_18 : (fun a : Nat => tru (callZ look2 100000 94 (.one (.u 1 a) .nil) ZH.none)) 18 = true := by kernel_rfl
theorem run0_19 : (fun a : Nat => tru (callZ look2 100000 94 (.one (.u 1 a) .nil) ZH.none)) 19 = true := by kernel_rfl
theorem run0 (n : Nat) (hn : n < 20) : (fun a : Nat => tru (callZ look2 100000 94 (.one (.u 1 a) .nil) ZH.none)) n = true := by
  match n, hn with
  | 0, _ => exact run0_0
  | 1, _ => exact run0_1
  | 2, _ => exact run0_2
  | 3, _ => exact run0_3
  | 4, _ => exact run0_4
  | 5, _ => exact run0_5
  | 6, _ => exact run0_6
  | 7, _ => exact run0_7
  | 8, _ => exact run0_8
  | 9, _ => exact run0_9
  | 10, _ => exact run0_10
  | 11, _ => exact run0_11
  | 12, _ => exact run0_12
  | 13, _ => exact run0_13
  | 14, _ => exact run0_14
  | 15, _ => exact run0_15
  | 16, _ => exact run0_16
  | 17, _ => exact run0_17
  | 18, _ => exact run0_18
  | 19, _ => exact run0_19
  | n + 20, h => exact absurd h (by omega)
theorem all0 (a : Nat) (ha : a < 65536) : ∃ H', evC (fun f => afs[f]?) 94 [.int .u16 (a : Int)] heap0 = some (.ret (.bool true) H') := by
  have ra := run0 (a % 20) (Nat.mod_lt _ (by decide))
  obtain ⟨Hr, h0⟩ := tru_ret (ra)
  have h0 := runZ_ret look2_ok (w := .one (.u 1 (a % 20)) .nil) (H := ZH.none) trivial h0
  have g0 : evC (fun f => afs[f]?) 94 [.int .u16 ((a % 20 : Nat) : Int)] heap0 = some (.ret (.bool true) Hr.heap) := h0
  have g1 : evC (fun f => afs[f]?) 94 [.int .u16 (a : Int)] heap0 = some (.ret (.bool true) Hr.heap) := evC_cg (D := [0, 47, 48]) (M := [20]) (F := []) (vs := [.int .u16 ((a % 20 : Nat) : Int)]) ⟨⟨wrap_small (by omega), wrap_small (by omega)⟩, fun m hm => by simp only [List.mem_singleton] at hm; subst hm; exact ⟨by decide, tmod_cast a 20⟩, fun f hf => by cases hf⟩ (af := a94) rfl (by kernel_rfl) (by kernel_rfl) (p := 0) (k := .u16) (b := (a : Int)) rfl rfl (fun s hs => by simp at hs; simp only [List.length_cons, List.length_nil]; omega) g0
  exact ⟨_, g1⟩
end Ey.Gs
namespace Go.Proofs.YtjcnpcdcpfbpdaaGreatDoor.gtextSpaces
open Go Go.ChangeShapes Go.WideShapes Go.ChangeAt Go.RowKit
theorem own : ownKnob Tryz.prog.godebug = none := by kernel_rfl
theorem walk (a : Nat) (ha : a < 65536) (W : World) (hw : ∀ b o v, Ey.Gs.cx.gl b o = some v → W.cell? ⟨b, o, none⟩ = some v ∧ b < W.heap.size) : Calls Tryz.prog 8 #[.int .u16 (a : Int)] W fun e w' => e = .returned (.bool true) ∧ Below W.heap.size W w' := by
  obtain ⟨H', h⟩ := Ey.Gs.all0 a ha
  exact Ey.args_calls Ey.Gs.known (f := 94) (fid := 8) rfl (vs := [.int .u16 (a : Int)]) rfl (fun g => Ey.vr_ints [(.u16, (a : Int))] g) h W hw
theorem gl_ok {W : World} (hL : laidMetH Tryz.prog Rows.gtextSpacesRow.laid W) : ∀ b o v, Ey.Gs.cx.gl b o = some v → W.cell? ⟨b, o, none⟩ = some v ∧ b < W.heap.size := by
  rw [MakeChecks.laidMetH_plain _ _ _ (by kernel_rfl)] at hL
  have t0 : Lib.TabIs Tryz.prog W "math/bits.deBruijn64tab" .u8 [0, 1, 56, 2, 57, 49, 28, 3, 61, 58, 42, 50, 38, 29, 17, 4, 62, 47, 59, 36, 45, 43, 51, 22, 53, 39, 33, 30, 24, 18, 12, 5, 63, 55, 48, 27, 60, 41, 37, 16, 46, 35, 44, 21, 52, 32, 23, 11, 54, 26, 40, 15, 34, 20, 31, 10, 25, 14, 19, 9, 13, 8, 7, 6] := Lib.tabIs_of_head (g := 7) (t := 328) (e := 5) (n := 64) (by kernel_rfl) (by kernel_rfl) Tryz.underlying328 Tryz.underlying5 (by kernel_rfl) (by kernel_rfl) (laidMet.tail hL)
  exact Ey.gl_cons t0 (by kernel_rfl) rfl (Ey.gl_nil W)
noncomputable def start (os : Os) : World := Ey.startWith Tryz.prog 72 [(3, Pinned.utf8FirstZ)] os
theorem start_met (os : Os) (args : Array Value) : laidMetH Tryz.prog Rows.gtextSpacesRow.laid (((start os).forCall (fun _ _ => 0) ⟨#[], args, []⟩).memory) :=
  laidMetH_of_parts3 (fuel := 8) (laidMet_of_run' 8 (by kernel_rfl) (by kernel_rfl)) (by kernel_rfl) (by kernel_rfl)
theorem lifted (os : Os) (started : os.Started) (H : Type) (enc : TypeId × Value → H) :
    ReturnsInHanded {} Tryz.checked os 8 .any (fun w args => (Rows.gtextSpacesSpec.pre enc Tryz.prog Tryz.f8 [] false w args ∧ laidMetH Tryz.prog Rows.gtextSpacesRow.laid w) ∧ sizedMet enc Tryz.prog Tryz.f8 (OpenSpec.ofChange Rows.gtextSpacesSpec) false w args)
      (Rows.gtextSpacesSpec.post enc Tryz.prog Tryz.f8 false true false false) := by
  refine returnsInHanded_of_change_and (C := Tryz.checked) (X := fun w _ => laidMetH Tryz.prog Rows.gtextSpacesRow.laid w) (fun _ _ _ hh h => h.of_heap hh) own started (by kernel_rfl) Tryz.func8
    (ChangeSpec.witness_shaped (enc := enc) (C := Tryz.checked) (os := os) (X := fun w _ => laidMetH Tryz.prog Rows.gtextSpacesRow.laid w) false (start os) #[.int .u16 0] 8 rfl (World.shaped_of_RefB (by kernel_rfl) (by kernel_rfl)) (by kernel_rfl) (by kernel_rfl) (by kernel_rfl) (start_met os _)) ?_
  intro W base args ds gs before hval0 hW _ _ hL _
  have hval : ∀ (j : Nat) t v, Tryz.f8.params[j]? = some t → args[j]? = some v → Value.okWide Tryz.prog W .any base t v := hval0
  have hW' := hW
  obtain ⟨p, q, hA0, hV, rfl, _, _⟩ := hW
  have hA : DataW.TrodAll enc Tryz.prog W 0 (fun _ => true) true Tryz.f8.params.toList args.toList ds p := hA0
  rw [Tryz.params8] at hA hval
  obtain ⟨v0, d0, rfl, rfl, h0⟩ := trodAll_one hA
  obtain ⟨rfl, rfl⟩ := trodVars_none hV
  obtain ⟨z0, rfl, rfl, rfl, w0⟩ := open_int Tryz.underlying47 (hval 0 47 v0 rfl rfl) h0
  clear hA0 hval0
  simp only [List.append_nil] at hW'
  obtain ⟨a, ha, rfl⟩ : ∃ a : Nat, a < 65536 ∧ z0 = (a : Int) := by
    have hz : 0 ≤ z0 ∧ z0 ≤ 65535 := by simpa [Lit.wf, IntKind.min, IntKind.max, IntKind.signed, IntKind.bits] using w0
    exact ⟨z0.toNat, by omega, by omega⟩
  refine (walk a ha W (gl_ok hL)).mono fun e W' ⟨he, hb⟩ => ?_
  subst he
  exact ⟨_, rfl, Ey.post_low (pa := []) (pv := []) hW' (fun _ _ _ => trodAll_mk1 (shut_bool Tryz.underlying4 _)) (fun sp _ => trodAll_mk1 (shut_int Tryz.underlying47 w0)) (fun _ _ => rfl) rfl hb (ok_one (by kernel_rfl) rfl (okWide_bool_mk Tryz.underlying4 _))⟩
theorem over : Rows.GtextSpacesSaid :=
  OpenClaim.holds_of_wide 8 Tryz.f8 rfl rfl rfl rfl rfl rfl rfl ⟨rfl, rfl, rfl, rfl, rfl⟩ rfl rfl rfl rfl rfl (by kernel_rfl) Tryz.func8 (by kernel_rfl)
    (of_decide_eq_true (by kernel_rfl)) (by unfold Func.isWrapper; first | (rw [if_pos (by decide +kernel)]; kernel_rfl) | (rw [if_neg (by decide +kernel)]; exact ⟨rfl, rfl⟩))
    (fun os started H enc _ => lifted os started H enc)
/-- the statement -/
theorem proved : Rows.GtextSpacesCardSaid :=
  Claim7.holds_tied_plain_at .later [] [.data, .data, .data, .data, .sentinel, .sentinel, .pinned] true (true, "bcc5565309d7f5661bb6b0a17463cadedc65cbd81e31414bc586fc3dd0d05011") true
    over (fun _ h => by cases h) (by kernel_rfl) (fun _ h => by cases h) gtextSpaces_row_tie rfl ⟨rfl, rfl⟩ (by kernel_rfl) rfl
    (fun f fn hf hfn => by
      obtain rfl : f = 8 := Option.some.inj ((show Tryz.prog.funcNamed "eyot/eyotlaw14.GtextSpaces" = some 8 by kernel_rfl).symm.trans hf) |>.symm
      obtain rfl : fn = Tryz.f8 := (Option.some.inj (Tryz.func8.symm.trans hfn)).symm
      exact ⟨by kernel_rfl, fun j t ht => by
        rw [Tryz.params8] at ht
        have hm : t ∈ [47] := by simpa using Array.mem_of_getElem? ht
        have hall : ([47].all fun u => !Tryz.prog.wantsStandIn u) = true := by kernel_rfl
        exact (show Tryz.prog.wantsStandIn t = false by simpa using List.all_eq_true.1 hall t hm)⟩)
    (by kernel_rfl)
end Go.Proofs.YtjcnpcdcpfbpdaaGreatDoor.gtextSpaces
