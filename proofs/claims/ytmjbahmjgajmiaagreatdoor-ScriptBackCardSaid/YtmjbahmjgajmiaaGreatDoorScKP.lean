/- The statement Rows.ScriptBackCardSaid, that the law answers true whatever its arguments, is proved, under no condition: the law's functions are held against code of a small language of our own, and what that code answers is shown by hand (YtmjbahmjgajmiaaGreatDoorScGK); what happens at its beginning whatever the arguments are, is run by the kernel. -/
import Derived.Test.YtmjbahmjgajmiaaGreatDoorScGK
import Derived.Test.YtmjbahmjgajmiaaGreatDoorScC
import Derived.Test.YtmjbahmjgajmiaaGreatDoorScKF
import Derived.Test.YtmjbahmjgajmiaaGreatDoorScKFz
import Derived.ProofKit
import Derived.OpenShut
import Derived.Test.YtmjbahmjgajmiaaGreatDoorTie
import Derived.Test.YtmjbahmjgajmiaaGreatDoorCards
import Derived.SevenTiedAt
set_option maxRecDepth 1000000
namespace Go.Proofs.YtmjbahmjgajmiaaGreatDoor.scriptBack
open Go Go.ChangeShapes Go.WideShapes Go.ChangeAt Go.RowKit
theorem own : ownKnob Tryz.prog.godebug = none := by kernel_rfl
theorem gl_ok {W : World} (hL : laidMetH Tryz.prog Rows.scriptBackRow.laid W) : ∀ b o v, Ey.Sc.cx.gl b o = some v → W.cell? ⟨b, o, none⟩ = some v ∧ b < W.heap.size := by
  rw [MakeChecks.laidMetH_plain _ _ _ (by kernel_rfl)] at hL
  have t0 : Lib.TabIs Tryz.prog W "math/bits.deBruijn64tab" .u8 [0, 1, 56, 2, 57, 49, 28, 3, 61, 58, 42, 50, 38, 29, 17, 4, 62, 47, 59, 36, 45, 43, 51, 22, 53, 39, 33, 30, 24, 18, 12, 5, 63, 55, 48, 27, 60, 41, 37, 16, 46, 35, 44, 21, 52, 32, 23, 11, 54, 26, 40, 15, 34, 20, 31, 10, 25, 14, 19, 9, 13, 8, 7, 6] := Lib.tabIs_of_head (g := 0) (t := 425) (e := 5) (n := 64) (by kernel_rfl) (by kernel_rfl) Tryz.underlying425 Tryz.underlying5 (by kernel_rfl) (by kernel_rfl) (laidMet.tail hL)
  exact Ey.gl_cons t0 (by kernel_rfl) rfl (Ey.gl_nil W)
noncomputable def start (os : Os) : World := Ey.startWith Tryz.prog 72 [(3, Pinned.utf8FirstZ)] os
theorem start_met (os : Os) (args : Array Value) : laidMetH Tryz.prog Rows.scriptBackRow.laid (((start os).forCall (fun _ _ => 0) ⟨#[], args, []⟩).memory) :=
  laidMetH_of_parts3 (fuel := 8) (laidMet_of_run' 8 (by kernel_rfl) (by kernel_rfl)) (by kernel_rfl) (by kernel_rfl)
theorem sh0 : Ey.shOf Tryz.prog 8 22 = some [.sl false [.int .u8]] := by kernel_rfl
theorem ag0 : Ey.isAg Tryz.prog 22 = false := by kernel_rfl
theorem re0 : Tryz.prog.readableRec 22 = true := by kernel_rfl
theorem rw0 : 22 < Tryz.prog.types.size := of_decide_eq_true (by kernel_rfl)
theorem lifted (os : Os) (started : os.Started) (H : Type) (enc : TypeId × Value → H) :
    ReturnsInHanded {} Tryz.checked os 3 .any (fun w args => (Rows.scriptBackSpec.pre enc Tryz.prog Tryz.f3 [] false w args ∧ laidMetH Tryz.prog Rows.scriptBackRow.laid w) ∧ sizedMet enc Tryz.prog Tryz.f3 (OpenSpec.ofChange Rows.scriptBackSpec) false w args)
      (Rows.scriptBackSpec.post enc Tryz.prog Tryz.f3 false true false false) := by
  refine returnsInHanded_of_change_and (C := Tryz.checked) (X := fun w _ => laidMetH Tryz.prog Rows.scriptBackRow.laid w) (fun _ _ _ hh h => h.of_heap hh) own started (by kernel_rfl) Tryz.func3
    (ChangeSpec.witness_shaped (enc := enc) (C := Tryz.checked) (os := os) (X := fun w _ => laidMetH Tryz.prog Rows.scriptBackRow.laid w) false (start os) #[.slice none 0 0] 8 rfl (World.shaped_of_RefB (by kernel_rfl) (by kernel_rfl)) (by kernel_rfl) (by kernel_rfl) (by kernel_rfl) (start_met os _)) ?_
  intro W base args ds gs before hval0 hW _ _ hL _
  have hval : ∀ (j : Nat) t v, Tryz.f3.params[j]? = some t → args[j]? = some v → Value.okWide Tryz.prog W .any base t v := hval0
  have hW' := hW
  obtain ⟨p, q, hA0, hV, rfl, _, _⟩ := hW
  have hA : DataW.TrodAll enc Tryz.prog W 0 (fun _ => true) true Tryz.f3.params.toList args.toList ds p := hA0
  rw [Tryz.params3] at hA hval
  obtain ⟨v0, d0, rfl, rfl, h0⟩ := trodAll_one hA
  obtain ⟨rfl, rfl⟩ := trodVars_none hV
  obtain ⟨x0, j0, r0⟩ := Ey.arg_imp (C := Ey.Sc.cx) sh0 (hval 0 22 v0 rfl rfl) h0
  rw [ag0] at j0
  obtain ⟨s0, e0, i0⟩ := j0
  cases e0
  clear hA0 hval0
  simp only [List.append_nil] at hW'
  obtain ⟨H', hl⟩ := Ey.Sc.backLaw i0
  have hpt : ∀ (i : Nat) (x : Ey.AV) (y : Value), ([x0] : List Ey.AV)[i]? = some x → (#[v0] : Array Value)[i]? = some y → Ey.VR Ey.Sc.cx (Ey.ghW W) x y := fun i x y hx hy => by
    match i, hx, hy with
    | 0, hx, hy => simp at hx hy; subst hx; subst hy; exact r0
    | n + 1, hx, hy => simp at hx
  refine (Ey.laid_calls Ey.Sc.known (f := 201) (fid := 3) rfl W rfl hpt hl (gl_ok hL)).mono fun e W' ⟨he, hb⟩ => ?_
  subst he
  have k0 : ∀ sp : Nat → Bool, (∀ z ∈ p, sp z.block = true) → DataW.Trod enc Tryz.prog W' 0 sp true 22 v0 d0 p := fun sp hs => WideElems.Trod_stays limb1 re0 rw0 h0 (fun x hx => hb.same (hW'.lt x (by simp [hx]))) (fun x hx => hs x (by simp [hx]))
  exact ⟨_, rfl, Ey.post_low (pa := p) (pv := []) hW' (fun _ _ _ => trodAll_mk1 (shut_bool Tryz.underlying4 _)) (fun sp hs => trodAll_mk1 (k0 sp (fun x hx => hs x (by simpa using hx)))) (fun _ _ => rfl) (by simp) hb (ok_one (by kernel_rfl) rfl (okWide_bool_mk Tryz.underlying4 _))⟩
theorem over : Rows.ScriptBackSaid :=
  OpenClaim.holds_of_wide 3 Tryz.f3 rfl rfl rfl rfl rfl rfl rfl ⟨rfl, rfl, rfl, rfl, rfl⟩ rfl rfl rfl rfl rfl namedF Tryz.func3 facts
    (of_decide_eq_true (by kernel_rfl)) (by unfold Func.isWrapper; first | (rw [if_pos (by decide +kernel)]; kernel_rfl) | (rw [if_neg (by decide +kernel)]; exact ⟨rfl, rfl⟩))
    (fun os started H enc _ => lifted os started H enc)
/-- the statement -/
theorem proved : Rows.ScriptBackCardSaid :=
  Claim7.holds_tied_plain_at .later [] [.data, .data, .data, .data, .sentinel, .sentinel, .pinned] true (true, "42019f17558db455cccf6a141f2446dbcd2d3717bc3a4fcec7ccc9b7119d4144") true
    over (fun _ h => by cases h) (by kernel_rfl) (fun _ h => by cases h) scriptBack_row_tie rfl ⟨rfl, rfl⟩ (by kernel_rfl) rfl
    (fun f fn hf hfn => by
      obtain rfl : f = 3 := Option.some.inj (namedF.symm.trans hf) |>.symm
      obtain rfl : fn = Tryz.f3 := (Option.some.inj (Tryz.func3.symm.trans hfn)).symm
      exact ⟨by kernel_rfl, fun j t ht => by
        rw [Tryz.params3] at ht
        have hm : t ∈ [22] := by simpa using Array.mem_of_getElem? ht
        have hall : ([22].all fun u => !Tryz.prog.wantsStandIn u) = true := by kernel_rfl
        exact (show Tryz.prog.wantsStandIn t = false by simpa using List.all_eq_true.1 hall t (by simpa using hm))⟩)
    goesOk
end Go.Proofs.YtmjbahmjgajmiaaGreatDoor.scriptBack
