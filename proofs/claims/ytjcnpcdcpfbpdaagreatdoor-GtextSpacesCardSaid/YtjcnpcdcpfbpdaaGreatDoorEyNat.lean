/- What entries of the library's answer. -/
import Derived.Test.YtjcnpcdcpfbpdaaGreatDoorEyOp5
import Derived.Lib.Bytealg
import Derived.Laws.Externs
import Derived.KernelRfl
namespace Ey
open Go Go.RowKit

theorem byte_beq (a b : UInt8) : Nat.beq a.toNat b.toNat = (a == b) := by
  rw [Bool.eq_iff_iff]
  simp [UInt8.toNat_inj]

theorem cntB_eq (c : UInt8) : ∀ s : List UInt8, cntB c s = Lib.countByte s c
  | [] => rfl
  | x :: s => by
    simp only [cntB, byte_beq, cntB_eq c s, Lib.countByte, List.count_cons]
    split <;> simp

theorem idxB_eq (c : UInt8) : ∀ (s : List UInt8) (i : Nat), idxB c i s = if Lib.indexByte s c = -1 then -1 else (i : Int) + Lib.indexByte s c
  | [], i => by simp [idxB, Lib.indexByte]
  | x :: s, i => by
    have hge := Lib.indexByte_ge s c
    simp only [idxB, byte_beq, idxB_eq c s (i + 1), Lib.indexByte]
    split
    · simp
    · by_cases h : Lib.indexByte s c = -1
      · simp [h]
      · simp only [h, beq_iff_eq, if_false]
        rw [if_neg (by omega)]
        omega

def natName : Nat → String
  | 0 => "internal/bytealg.CountString"
  | 1 => "internal/bytealg.IndexByteString"
  | 2 => "math.Float64bits"
  | 3 => "math.Float64frombits"
  | _ => ""

def natFn (P : Program) (fid : FuncId) (k : Nat) : Bool :=
  match P.funcs[fid]? with
  | some fn => fn.body.isNone && fn.name == natName k && fn.origin == "" && decide (k < 4)
  | none => false

theorem find_row {fn : Func} {nm : String} {e : Array Value → Sem Value} (hn : fn.name = nm) (ho : fn.origin = "") (h1 : Extern.allNextRows.lookup nm = none) (h2 : Extern.allNextRows.lookup "" = none) (h3 : Extern.allGenericRows.lookup nm = none)
    (h4 : Extern.allTypedRows.lookup nm = none) (h5 : Extern.allRows.lookup nm = some e) : Extern.findNext fn = none ∧ Extern.find fn = some e := by
  unfold Extern.findNext Extern.find
  rw [hn, ho]
  simp only [h1, h2, h3, h4, h5]
  exact ⟨rfl, rfl⟩

section
variable {C : Cx} {g : Gh}

theorem nat_sim {fid : FuncId} {k : Nat} (hf : natFn C.P fid k = true) {vs : List AV} {z : AV} (hz : natAV k vs = some z) {ws : List Value} (hl : vs.length = ws.length) (hv : ∀ (i : Nat) (x : AV) (y : Value), vs[i]? = some x → ws[i]? = some y → VR C g x y) (w : World) :
    ∃ v, (callFunc fid ws.toArray).run C.P w = .ok (.value v) w ∧ VR C g z v := by
  unfold natFn at hf
  split at hf
  · rename_i fn hfn
    simp only [Bool.and_eq_true, beq_iff_eq, decide_eq_true_eq] at hf
    obtain ⟨⟨⟨hb, hn⟩, ho⟩, hk4⟩ := hf
    have hx : (fn.name == "runtime.NumGoroutine") = false → ∀ e, Extern.findNext fn = none ∧ Extern.find fn = some e → (callFunc fid ws.toArray).run C.P w = ((e ws.toArray).run C.P w).andThen fun v w' => .ok (.value v) w' := fun h1 e h =>
      run_callFunc_extern hfn h1 hb h.1 h.2 _ _
    have h0 : Extern.allNextRows.lookup "" = none := by kernel_rfl
    unfold natAV at hz
    split at hz
    · rename_i s c
      simp only [Option.some.injEq] at hz
      subst hz
      match ws, hl with
      | [u, v], _ =>
        have hu := hv 0 _ _ rfl rfl
        have hv' := hv 1 _ _ rfl rfl
        cases hu with
        | str b =>
        cases hv'
        refine ⟨_, ?_, .int _ _⟩
        rw [hx (by rw [hn]; rfl) _ (find_row hn ho (by kernel_rfl) h0 (by kernel_rfl) (by kernel_rfl) (e := Extern.BytealgCount.count) (by kernel_rfl)), Lib.run_countString]
        simp only [Result.andThen, cntB_eq]
    · rename_i s c
      simp only [Option.some.injEq] at hz
      subst hz
      match ws, hl with
      | [u, v], _ =>
        have hu := hv 0 _ _ rfl rfl
        have hv' := hv 1 _ _ rfl rfl
        cases hu with
        | str b =>
        cases hv'
        refine ⟨_, ?_, .int _ _⟩
        rw [hx (by rw [hn]; rfl) _ (find_row hn ho (by kernel_rfl) h0 (by kernel_rfl) (by kernel_rfl) (e := Extern.BytealgIndexByte.indexByte) (by kernel_rfl)), Lib.run_indexByteString]
        simp only [Result.andThen, idxB_eq]
        congr 3
        split
        · rename_i h; exact h
        · simp
    · rename_i b
      simp only [Option.some.injEq] at hz
      subst hz
      match ws, hl with
      | [u], _ =>
        have hu := hv 0 _ _ rfl rfl
        cases hu
        refine ⟨_, ?_, .int _ _⟩
        rw [hx (by rw [hn]; rfl) _ (find_row hn ho (by kernel_rfl) h0 (by kernel_rfl) (by kernel_rfl) (e := Extern.MathFloatBits.float64bits) (by kernel_rfl))]
        rfl
    · rename_i n
      simp only [Option.some.injEq] at hz
      subst hz
      match ws, hl with
      | [u], _ =>
        have hu := hv 0 _ _ rfl rfl
        cases hu
        refine ⟨_, ?_, .flt _ _⟩
        rw [hx (by rw [hn]; rfl) _ (find_row hn ho (by kernel_rfl) h0 (by kernel_rfl) (by kernel_rfl) (e := Extern.MathFloatBits.float64frombits) (by kernel_rfl))]
        rfl
    · exact absurd hk4 (by decide)
    · exact absurd hk4 (by decide)
    · exact absurd hk4 (by decide)
    · cases hz
  · cases hf
end
end Ey
