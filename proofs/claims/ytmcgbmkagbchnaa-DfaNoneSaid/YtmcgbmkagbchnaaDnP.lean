/- The statement Rows.DfaNoneSaid, that the closed law DfaNone answers true, is proved, under no condition: the law's functions are held against code of a small language of our own (YtmcgbmkagbchnaaDnC), whose evaluator the kernel runs. -/
import Derived.Test.YtmcgbmkagbchnaaDnC
import Derived.ProofKit
import Derived.OpenShut
namespace Go.Proofs.Ytmcgbmkagbchnaa.dfaNone
open Go.ChangeShapes Go.WideShapes Go.ChangeAt Go.RowKit

theorem own : ownKnob Try.prog.godebug = none := by kernel_rfl

/-- what the run answers, if it is a truth value -/
noncomputable def isTrue : Ey.FRes → Bool := @Ey.FRes.rec (fun _ => Bool) (fun v _ => Ey.blK v false fun b => b) (fun _ _ => false) false
theorem isTrue_ret {r : Ey.FRes} (h : isTrue r = true) : ∃ H, r = .ret (.bool true) H := by
  cases r with
  | ret v H =>
    simp only [isTrue] at h
    rw [Ey.blK_eq] at h
    cases v <;> try (simp at h; done)
    rename_i b
    simp at h
    exact ⟨H, by rw [h]⟩
  | pan v H => simp [isTrue] at h
  | bad => simp [isTrue] at h

set_option maxRecDepth 1000000 in
theorem run : isTrue (Ey.callF Ey.Dn.ft 100000 45 [] Ey.FH.none) = true := by kernel_rfl

theorem walk (w : World) : Calls Try.prog 7 #[] w fun e w' => e = .returned (.bool true) ∧ Below w.heap.size w w' := by
  obtain ⟨H, h⟩ := isTrue_ret run
  have := Ey.run_ret Ey.Dn.look Ey.FH.none_ok h
  exact Ey.closed_calls Ey.Dn.known (f := 45) (fid := 7) rfl this w

set_option maxRecDepth 100000 in
theorem lifted (os : Os) (started : os.Started) (H : Type) (enc : TypeId × Value → H) :
    ReturnsInHanded {} Try.checked os 7 .any (Rows.dfaNoneSpec.pre6 enc Try.prog Try.f7 Rows.dfaNoneRow.domain false) (Rows.dfaNoneSpec.post enc Try.prog Try.f7 false true false false) := by
  refine returnsInHanded_of_change (C := Try.checked) own started (by kernel_rfl) Try.func7
    (ChangeSpec.witness6 (enc := enc) (C := Try.checked) false ⟨#[], #[], []⟩ 8 (by kernel_rfl) (by kernel_rfl) (by kernel_rfl) (by kernel_rfl)) ?_
  intro W base args ds gs before _ hW _ _
  have hW' := hW
  obtain ⟨p, q, hA0, hV, rfl, _, _⟩ := hW
  have hA : DataW.TrodAll enc Try.prog W 0 (fun _ => true) true Try.f7.params.toList args.toList ds p := hA0
  rw [Try.params7] at hA
  obtain ⟨rfl, rfl, rfl⟩ := trodAll_none hA
  obtain ⟨rfl, rfl⟩ := trodVars_none hV
  clear hA0
  simp only [List.append_nil] at hW'
  refine (walk W).mono fun e W' ⟨he, hg⟩ => ?_
  subst he
  exact ⟨_, rfl, Ey.post_low (pa := []) (pv := []) hW' (fun _ _ _ => (trodAll_cons_mk (shut_bool Try.underlying4 _) trodAll_mk0)) (fun sp _ => rfl) (fun _ _ => rfl) rfl
    hg (ok_one (by kernel_rfl) rfl (okWide_bool_mk Try.underlying4 _))⟩

theorem over : Rows.dfaNoneRow.holds Try.pinned (OpenSpec.ofChange Rows.dfaNoneSpec) :=
  OpenClaim.holds_of_wide 7 Try.f7 rfl rfl rfl rfl rfl rfl rfl ⟨rfl, rfl, rfl, rfl, rfl⟩ rfl rfl rfl rfl rfl (by kernel_rfl) Try.func7 (by kernel_rfl)
    (of_decide_eq_true (by kernel_rfl)) (by unfold Func.isWrapper; first | (rw [if_pos (by decide +kernel)]; kernel_rfl) | (rw [if_neg (by decide +kernel)]; exact ⟨rfl, rfl⟩))
    (fun os started H enc _ => lifted os started H enc)

/-- the statement -/
theorem proved : Rows.DfaNoneSaid := over
end Go.Proofs.Ytmcgbmkagbchnaa.dfaNone
