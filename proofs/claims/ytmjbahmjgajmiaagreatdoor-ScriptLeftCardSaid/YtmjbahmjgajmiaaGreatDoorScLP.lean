/- The statement Rows.ScriptLeftCardSaid, that the law answers true whatever its arguments, is proved, under no condition: the law's functions are held against code of a small language of our own, and what that code answers is shown by hand (YtmjbahmjgajmiaaGreatDoorScGL); what happens at its beginning whatever the arguments are, is run by the kernel. -/
import Derived.Test.YtmjbahmjgajmiaaGreatDoorScGL
import Derived.Test.YtmjbahmjgajmiaaGreatDoorScC
import Derived.Test.YtmjbahmjgajmiaaGreatDoorScLF
import Derived.Test.YtmjbahmjgajmiaaGreatDoorScLFz
import Derived.ProofKit
import Derived.OpenShut
import Derived.Test.YtmjbahmjgajmiaaGreatDoorTie
import Derived.Test.YtmjbahmjgajmiaaGreatDoorCards
import Derived.SevenTiedAt
set_option maxRecDepth 1000000
namespace Go.Proofs.YtmjbahmjgajmiaaGreatDoor.scriptLeft
open Go Go.ChangeShapes Go.WideShapes Go.ChangeAt Go.RowKit
theorem own : ownKnob Tryz.prog.godebug = none := by kernel_rfl
theorem gl_ok {W : World} (hL : laidMetH Tryz.prog Rows.scriptLeftRow.laid W) : ∀ b o v, Ey.Sc.cx.gl b o = some v → W.cell? ⟨b, o, none⟩ = some v ∧ b < W.heap.size := by
  rw [MakeChecks.laidMetH_plain _ _ _ (by kernel_rfl)] at hL
  have t0 : Lib.TabIs Tryz.prog W "math/bits.deBruijn64tab" .u8 [0, 1, 56, 2, 57, 49, 28, 3, 61, 58, 42, 50, 38, 29, 17, 4, 62, 47, 59, 36, 45, 43, 51, 22, 53, 39, 33, 30, 24, 18, 12, 5, 63, 55, 48, 27, 60, 41, 37, 16, 46, 35, 44, 21, 52, 32, 23, 11, 54, 26, 40, 15, 34, 20, 31, 10, 25, 14, 19, 9, 13, 8, 7, 6] := Lib.tabIs_of_head (g := 0) (t := 425) (e := 5) (n := 64) (by kernel_rfl) (by kernel_rfl) Tryz.underlying425 Tryz.underlying5 (by kernel_rfl) (by kernel_rfl) (laidMet.tail hL)
  exact Ey.gl_cons t0 (by kernel_rfl) rfl (Ey.gl_nil W)
noncomputable def start (os : Os) : World := Ey.startWith Tryz.prog 72 [(3, Pinned.utf8FirstZ)] os
theorem start_met (os : Os) (args : Array Value) : laidMetH Tryz.prog Rows.scriptLeftRow.laid (((start os).forCall (fun _ _ => 0) ⟨#[], args, []⟩).memory) :=
  laidMetH_of_parts3 (fuel := 8) (laidMet_of_run' 8 (by kernel_rfl) (by kernel_rfl)) (by kernel_rfl) (by kernel_rfl)
theorem sh0 : Ey.shOf Tryz.prog 8 5 = some [.int .u8] := by kernel_rfl
theorem ag0 : Ey.isAg Tryz.prog 5 = false := by kernel_rfl
theorem re0 : Tryz.prog.readableRec 5 = true := by kernel_rfl
theorem rw0 : 5 < Tryz.prog.types.size := of_decide_eq_true (by kernel_rfl)
theorem sh1 : Ey.shOf Tryz.prog 8 3 = some [.int .i64] := by kernel_rfl
theorem ag1 : Ey.isAg Tryz.prog 3 = false := by kernel_rfl
theorem re1 : Tryz.prog.readableRec 3 = true := by kernel_rfl
theorem rw1 : 3 < Tryz.prog.types.size := of_decide_eq_true (by kernel_rfl)
theorem sh2 : Ey.shOf Tryz.prog 8 3 = some [.int .i64] := by kernel_rfl
theorem ag2 : Ey.isAg Tryz.prog 3 = false := by kernel_rfl
theorem re2 : Tryz.prog.readableRec 3 = true := by kernel_rfl
theorem rw2 : 3 < Tryz.prog.types.size := of_decide_eq_true (by kernel_rfl)
theorem sh3 : Ey.shOf Tryz.prog 8 22 = some [.sl false [.int .u8]] := by kernel_rfl
theorem ag3 : Ey.isAg Tryz.prog 22 = false := by kernel_rfl
theorem re3 : Tryz.prog.readableRec 22 = true := by kernel_rfl
theorem rw3 : 22 < Tryz.prog.types.size := of_decide_eq_true (by kernel_rfl)
theorem sh4 : Ey.shOf Tryz.prog 8 29 = some [.sl false [.int .i64]] := by kernel_rfl
theorem ag4 : Ey.isAg Tryz.prog 29 = false := by kernel_rfl
theorem re4 : Tryz.prog.readableRec 29 = true := by kernel_rfl
theorem rw4 : 29 < Tryz.prog.types.size := of_decide_eq_true (by kernel_rfl)
theorem lifted (os : Os) (started : os.Started) (H : Type) (enc : TypeId × Value → H) :
    ReturnsInHanded {} Tryz.checked os 4 .any (fun w args => (Rows.scriptLeftSpec.pre enc Tryz.prog Tryz.f4 [] false w args ∧ laidMetH Tryz.prog Rows.scriptLeftRow.laid w) ∧ sizedMet enc Tryz.prog Tryz.f4 (OpenSpec.ofChange Rows.scriptLeftSpec) false w args)
      (Rows.scriptLeftSpec.post enc Tryz.prog Tryz.f4 false true false false) := by
  refine returnsInHanded_of_change_and (C := Tryz.checked) (X := fun w _ => laidMetH Tryz.prog Rows.scriptLeftRow.laid w) (fun _ _ _ hh h => h.of_heap hh) own started (by kernel_rfl) Tryz.func4
    (ChangeSpec.witness_shaped (enc := enc) (C := Tryz.checked) (os := os) (X := fun w _ => laidMetH Tryz.prog Rows.scriptLeftRow.laid w) false (start os) #[.int .u8 0, .int .i64 0, .int .i64 0, .slice none 0 0, .slice none 0 0] 8 rfl (World.shaped_of_RefB (by kernel_rfl) (by kernel_rfl)) (by kernel_rfl) (by kernel_rfl) (by kernel_rfl) (start_met os _)) ?_
  intro W base args ds gs before hval0 hW _ _ hL _
  have hval : ∀ (j : Nat) t v, Tryz.f4.params[j]? = some t → args[j]? = some v → Value.okWide Tryz.prog W .any base t v := hval0
  have hW' := hW
  obtain ⟨p, q, hA0, hV, rfl, _, _⟩ := hW
  have hA : DataW.TrodAll enc Tryz.prog W 0 (fun _ => true) true Tryz.f4.params.toList args.toList ds p := hA0
  rw [Tryz.params4] at hA hval
  obtain ⟨v0, v1, v2, v3, v4, d0, d1, d2, d3, d4, p0, p1, p2, p3, p4, rfl, rfl, rfl, h0, h1, h2, h3, h4⟩ := Ey.trodAll_five hA
  obtain ⟨rfl, rfl⟩ := trodVars_none hV
  obtain ⟨x0, j0, r0⟩ := Ey.arg_imp (C := Ey.Sc.cx) sh0 (hval 0 5 v0 rfl rfl) h0
  rw [ag0] at j0
  obtain ⟨s0, e0, i0⟩ := j0
  cases e0
  obtain ⟨x1, j1, r1⟩ := Ey.arg_imp (C := Ey.Sc.cx) sh1 (hval 1 3 v1 rfl rfl) h1
  rw [ag1] at j1
  obtain ⟨s1, e1, i1⟩ := j1
  cases e1
  obtain ⟨x2, j2, r2⟩ := Ey.arg_imp (C := Ey.Sc.cx) sh2 (hval 2 3 v2 rfl rfl) h2
  rw [ag2] at j2
  obtain ⟨s2, e2, i2⟩ := j2
  cases e2
  obtain ⟨x3, j3, r3⟩ := Ey.arg_imp (C := Ey.Sc.cx) sh3 (hval 3 22 v3 rfl rfl) h3
  rw [ag3] at j3
  obtain ⟨s3, e3, i3⟩ := j3
  cases e3
  obtain ⟨x4, j4, r4⟩ := Ey.arg_imp (C := Ey.Sc.cx) sh4 (hval 4 29 v4 rfl rfl) h4
  rw [ag4] at j4
  obtain ⟨s4, e4, i4⟩ := j4
  cases e4
  clear hA0 hval0
  simp only [List.append_nil] at hW'
  obtain ⟨H', hl⟩ := Ey.Sc.leftLaw i0 i1 i2 i3 i4
  have hpt : ∀ (i : Nat) (x : Ey.AV) (y : Value), ([x0, x1, x2, x3, x4] : List Ey.AV)[i]? = some x → (#[v0, v1, v2, v3, v4] : Array Value)[i]? = some y → Ey.VR Ey.Sc.cx (Ey.ghW W) x y := fun i x y hx hy => by
    match i, hx, hy with
    | 0, hx, hy => simp at hx hy; subst hx; subst hy; exact r0
    | 1, hx, hy => simp at hx hy; subst hx; subst hy; exact r1
    | 2, hx, hy => simp at hx hy; subst hx; subst hy; exact r2
    | 3, hx, hy => simp at hx hy; subst hx; subst hy; exact r3
    | 4, hx, hy => simp at hx hy; subst hx; subst hy; exact r4
    | n + 5, hx, hy => simp at hx
  refine (Ey.laid_calls Ey.Sc.known (f := 212) (fid := 4) rfl W rfl hpt hl (gl_ok hL)).mono fun e W' ⟨he, hb⟩ => ?_
  subst he
  have k0 : ∀ sp : Nat → Bool, (∀ p ∈ p0 ++ (p1 ++ (p2 ++ (p3 ++ (p4)))), sp p.block = true) → DataW.Trod enc Tryz.prog W' 0 sp true 5 v0 d0 p0 := fun sp hs => WideElems.Trod_stays limb1 re0 rw0 h0 (fun x hx => hb.same (hW'.lt x (by simp [hx]))) (fun x hx => hs x (by simp [hx]))
  have k1 : ∀ sp : Nat → Bool, (∀ p ∈ p0 ++ (p1 ++ (p2 ++ (p3 ++ (p4)))), sp p.block = true) → DataW.Trod enc Tryz.prog W' 0 sp true 3 v1 d1 p1 := fun sp hs => WideElems.Trod_stays limb1 re1 rw1 h1 (fun x hx => hb.same (hW'.lt x (by simp [hx]))) (fun x hx => hs x (by simp [hx]))
  have k2 : ∀ sp : Nat → Bool, (∀ p ∈ p0 ++ (p1 ++ (p2 ++ (p3 ++ (p4)))), sp p.block = true) → DataW.Trod enc Tryz.prog W' 0 sp true 3 v2 d2 p2 := fun sp hs => WideElems.Trod_stays limb1 re2 rw2 h2 (fun x hx => hb.same (hW'.lt x (by simp [hx]))) (fun x hx => hs x (by simp [hx]))
  have k3 : ∀ sp : Nat → Bool, (∀ p ∈ p0 ++ (p1 ++ (p2 ++ (p3 ++ (p4)))), sp p.block = true) → DataW.Trod enc Tryz.prog W' 0 sp true 22 v3 d3 p3 := fun sp hs => WideElems.Trod_stays limb1 re3 rw3 h3 (fun x hx => hb.same (hW'.lt x (by simp [hx]))) (fun x hx => hs x (by simp [hx]))
  have k4 : ∀ sp : Nat → Bool, (∀ p ∈ p0 ++ (p1 ++ (p2 ++ (p3 ++ (p4)))), sp p.block = true) → DataW.Trod enc Tryz.prog W' 0 sp true 29 v4 d4 p4 := fun sp hs => WideElems.Trod_stays limb1 re4 rw4 h4 (fun x hx => hb.same (hW'.lt x (by simp [hx]))) (fun x hx => hs x (by simp [hx]))
  exact ⟨_, rfl, Ey.post_low (pa := p0 ++ (p1 ++ (p2 ++ (p3 ++ (p4))))) (pv := []) hW' (fun _ _ _ => trodAll_mk1 (shut_bool Tryz.underlying4 _)) (fun sp hs => Ey.trodAll_mk5 (k0 sp (fun x hx => hs x (by simpa using hx))) (k1 sp (fun x hx => hs x (by simpa using hx))) (k2 sp (fun x hx => hs x (by simpa using hx))) (k3 sp (fun x hx => hs x (by simpa using hx))) (k4 sp (fun x hx => hs x (by simpa using hx)))) (fun _ _ => rfl) (by simp) hb (ok_one (by kernel_rfl) rfl (okWide_bool_mk Tryz.underlying4 _))⟩
theorem over : Rows.ScriptLeftSaid :=
  OpenClaim.holds_of_wide 4 Tryz.f4 rfl rfl rfl rfl rfl rfl rfl ⟨rfl, rfl, rfl, rfl, rfl⟩ rfl rfl rfl rfl rfl namedF Tryz.func4 facts
    (of_decide_eq_true (by kernel_rfl)) (by unfold Func.isWrapper; first | (rw [if_pos (by decide +kernel)]; kernel_rfl) | (rw [if_neg (by decide +kernel)]; exact ⟨rfl, rfl⟩))
    (fun os started H enc _ => lifted os started H enc)
/-- the statement -/
theorem proved : Rows.ScriptLeftCardSaid :=
  Claim7.holds_tied_plain_at .later [] [.data, .data, .data, .data, .sentinel, .sentinel, .pinned] true (true, "42019f17558db455cccf6a141f2446dbcd2d3717bc3a4fcec7ccc9b7119d4144") true
    over (fun _ h => by cases h) (by kernel_rfl) (fun _ h => by cases h) scriptLeft_row_tie rfl ⟨rfl, rfl⟩ (by kernel_rfl) rfl
    (fun f fn hf hfn => by
      obtain rfl : f = 4 := Option.some.inj (namedF.symm.trans hf) |>.symm
      obtain rfl : fn = Tryz.f4 := (Option.some.inj (Tryz.func4.symm.trans hfn)).symm
      exact ⟨by kernel_rfl, fun j t ht => by
        rw [Tryz.params4] at ht
        have hm : t ∈ [5, 3, 3, 22, 29] := by simpa using Array.mem_of_getElem? ht
        have hall : ([5, 3, 3, 22, 29].all fun u => !Tryz.prog.wantsStandIn u) = true := by kernel_rfl
        exact (show Tryz.prog.wantsStandIn t = false by simpa using List.all_eq_true.1 hall t hm)⟩)
    goesOk
end Go.Proofs.YtmjbahmjgajmiaaGreatDoor.scriptLeft
