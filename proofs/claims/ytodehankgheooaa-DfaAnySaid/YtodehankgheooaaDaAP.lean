/- The statement Rows.DfaAnySaid, that the law answers true whatever its arguments, is proved, under no condition: the law's functions are held against code of a small language of our own, and what that code answers is shown by hand (YtodehankgheooaaDaG); what happens at its beginning whatever the arguments are, is run by the kernel. -/
import Derived.Test.YtodehankgheooaaDaG
import Derived.Test.YtodehankgheooaaDaC
import Derived.Test.YtodehankgheooaaDaAF
import Derived.Test.YtodehankgheooaaDaAFz
import Derived.ProofKit
import Derived.OpenShut
set_option maxRecDepth 1000000
namespace Go.Proofs.Ytodehankgheooaa.dfaAny
open Go Go.ChangeShapes Go.WideShapes Go.ChangeAt Go.RowKit
theorem own : ownKnob Try.prog.godebug = none := by kernel_rfl
theorem sh0 : Ey.shOf Try.prog 8 26 = some (List.replicate 256 (Ey.Sc.int .u8) ++ [Ey.Sc.sl false [Ey.Sc.sl false [Ey.Sc.int .i64]], Ey.Sc.sl false [Ey.Sc.int .i64]]) := by kernel_rfl
theorem ag0 : Ey.isAg Try.prog 26 = true := by kernel_rfl
theorem re0 : Try.prog.readableRec 26 = true := by kernel_rfl
theorem rw0 : 26 < Try.prog.types.size := of_decide_eq_true (by kernel_rfl)
theorem sh1 : Ey.shOf Try.prog 8 27 = some [.sl false [.int .u8]] := by kernel_rfl
theorem ag1 : Ey.isAg Try.prog 27 = false := by kernel_rfl
theorem re1 : Try.prog.readableRec 27 = true := by kernel_rfl
theorem rw1 : 27 < Try.prog.types.size := of_decide_eq_true (by kernel_rfl)
theorem lifted (os : Os) (started : os.Started) (H : Type) (enc : TypeId × Value → H) :
    ReturnsInHanded {} Try.checked os 3 .any (Rows.dfaAnySpec.pre6 enc Try.prog Try.f3 Rows.dfaAnyRow.domain false) (Rows.dfaAnySpec.post enc Try.prog Try.f3 false true false false) := by
  refine returnsInHanded_of_change (C := Try.checked) own started (by kernel_rfl) Try.func3
    (ChangeSpec.witness6 (enc := enc) (C := Try.checked) false ⟨#[], #[Value.agg ((List.replicate 256 (Value.int .u8 0) ++ [Value.slice none 0 0, Value.slice none 0 0]).toArray), .slice none 0 0], []⟩ 8 (by kernel_rfl) (by kernel_rfl) (by kernel_rfl) (by kernel_rfl)) ?_
  intro W base args ds gs before hval0 hW _ _
  have hval : ∀ (j : Nat) t v, Try.f3.params[j]? = some t → args[j]? = some v → Value.okWide Try.prog W .any base t v := hval0
  have hW' := hW
  obtain ⟨p, q, hA0, hV, rfl, _, _⟩ := hW
  have hA : DataW.TrodAll enc Try.prog W 0 (fun _ => true) true Try.f3.params.toList args.toList ds p := hA0
  rw [Try.params3] at hA hval
  obtain ⟨v0, v1, d0, d1, p0, p1, rfl, rfl, rfl, h0, h1⟩ := trodAll_two hA
  obtain ⟨rfl, rfl⟩ := trodVars_none hV
  obtain ⟨x0, j0, r0⟩ := Ey.arg_imp (C := Ey.Da.cx) sh0 (hval 0 26 v0 rfl rfl) h0
  rw [ag0] at j0
  obtain ⟨l0, rfl, i0⟩ := j0
  obtain ⟨x1, j1, r1⟩ := Ey.arg_imp (C := Ey.Da.cx) sh1 (hval 1 27 v1 rfl rfl) h1
  rw [ag1] at j1
  obtain ⟨s1, e1, i1⟩ := j1
  cases e1
  clear hA0 hval0
  simp only [List.append_nil] at hW'
  obtain ⟨H', hl⟩ := Ey.Da.anyLaw i0 i1
  have hpt : ∀ (i : Nat) (x : Ey.AV) (y : Value), ([.agg l0, x1] : List Ey.AV)[i]? = some x → (#[v0, v1] : Array Value)[i]? = some y → Ey.VR Ey.Da.cx (Ey.ghW W) x y := fun i x y hx hy => by
    match i, hx, hy with
    | 0, hx, hy => simp at hx hy; subst hx; subst hy; exact r0
    | 1, hx, hy => simp at hx hy; subst hx; subst hy; exact r1
    | n + 2, hx, hy => simp at hx
  refine (Ey.laid_calls Ey.Da.known (f := 47) (fid := 3) rfl W rfl hpt hl (fun b o v h => by simp [Ey.Da.cx, Ey.glf] at h)).mono fun e W' ⟨he, hb⟩ => ?_
  subst he
  have k0 : ∀ sp : Nat → Bool, (∀ z ∈ p0 ++ (p1), sp z.block = true) → DataW.Trod enc Try.prog W' 0 sp true 26 v0 d0 p0 := fun sp hs => WideElems.Trod_stays limb1 re0 rw0 h0 (fun x hx => hb.same (hW'.lt x (by simp [hx]))) (fun x hx => hs x (by simp [hx]))
  have k1 : ∀ sp : Nat → Bool, (∀ z ∈ p0 ++ (p1), sp z.block = true) → DataW.Trod enc Try.prog W' 0 sp true 27 v1 d1 p1 := fun sp hs => WideElems.Trod_stays limb1 re1 rw1 h1 (fun x hx => hb.same (hW'.lt x (by simp [hx]))) (fun x hx => hs x (by simp [hx]))
  exact ⟨_, rfl, Ey.post_low (pa := p0 ++ (p1)) (pv := []) hW' (fun _ _ _ => trodAll_mk1 (shut_bool Try.underlying4 _)) (fun sp hs => trodAll_mk2 (k0 sp (fun x hx => hs x (by simpa using hx))) (k1 sp (fun x hx => hs x (by simpa using hx)))) (fun _ _ => rfl) (by simp) hb (ok_one (by kernel_rfl) rfl (okWide_bool_mk Try.underlying4 _))⟩
theorem over : Rows.DfaAnySaid :=
  OpenClaim.holds_of_wide 3 Try.f3 rfl rfl rfl rfl rfl rfl rfl ⟨rfl, rfl, rfl, rfl, rfl⟩ rfl rfl rfl rfl rfl namedF Try.func3 facts
    (of_decide_eq_true (by kernel_rfl)) (by unfold Func.isWrapper; first | (rw [if_pos (by decide +kernel)]; kernel_rfl) | (rw [if_neg (by decide +kernel)]; exact ⟨rfl, rfl⟩))
    (fun os started H enc _ => lifted os started H enc)
/-- the statement -/
theorem proved : Rows.DfaAnySaid := over
end Go.Proofs.Ytodehankgheooaa.dfaAny
