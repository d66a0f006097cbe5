/- What a row's condition on package variables says of the memory: tables of numbers. A start that meets it. -/
import Derived.Test.YtjcnpcdcpfbpdaaGreatDoorEyRow
import Derived.Lib.LaidTab
import Derived.Stop.LaidErr
import Derived.MakeChecks
import Derived.LaidMore
import Derived.LaidHandle
import Derived.Stop.Joined
import GoSem.PinnedTables
namespace Ey
open Go Go.RowKit Go.ChangeShapes

theorem cell_lt {W : World} {g o : Nat} {v : Value} (h : W.cell? ⟨g, o, none⟩ = some v) : g < W.heap.size := by
  unfold World.cell? at h
  cases hb : W.heap[g]? with
  | none => simp only [hb] at h; cases h
  | some x => exact (Array.getElem?_eq_some_iff.1 hb).1

theorem gl_nil (W : World) : ∀ b o v, glf [] b o = some v → W.cell? ⟨b, o, none⟩ = some v ∧ b < W.heap.size := fun b o v h => by simp [glf] at h

theorem gl_cons {P : Program} {W : World} {name : String} {k : IntKind} {zs : List Int} {g : Nat} (hT : Lib.TabIs P W name k zs) (hg : P.globalNamed name = some g) {cs : List Value} (hc : cs = zs.map fun z => Value.int k z) {l : List (Nat × List Value)}
    (hl : ∀ b o v, glf l b o = some v → W.cell? ⟨b, o, none⟩ = some v ∧ b < W.heap.size) : ∀ b o v, glf ((g, cs) :: l) b o = some v → W.cell? ⟨b, o, none⟩ = some v ∧ b < W.heap.size := fun b o v h => by
  simp only [glf, List.lookup_cons] at h
  by_cases hb : b = g
  · subst hb
    simp only [beq_self_eq_true, Option.bind_some] at h
    have := World.var?_cell hg hT o
    rw [hc] at h
    have h' : W.cell? ⟨b, o, none⟩ = some v := by rw [this]; simpa using h
    exact ⟨h', cell_lt h'⟩
  · have hne : (b == g) = false := by simpa using hb
    rw [hne] at h
    exact hl b o v h

/-- the door's own heap, with a pinned table of bytes laid beside -/
def layBytes (zs : List Nat) : Obj → Obj
  | .cells _ t frozen => .cells (zs.map fun (z : Nat) => Value.int .u8 (z : Int)).toArray t frozen
  | o => o
def layAll (h : Array Obj) : List (Nat × List Nat) → Array Obj
  | [] => h
  | x :: l => layAll (h.modify x.1 (layBytes x.2)) l
noncomputable def startWith (P : Program) (n : Nat) (tabs : List (Nat × List Nat)) (os : Go.Os) : World :=
  let w0 := World.doorLaid P n os
  { w0 with heap := layAll w0.heap tabs }

theorem vr_ints {C : Cx} : ∀ (l : List (IntKind × Int)) (g : Gh) (i : Nat) (x : AV) (y : Value), (l.map fun p => AV.int p.1 p.2)[i]? = some x → (l.map fun p => Value.int p.1 p.2).toArray[i]? = some y → VR C g x y
  | l, g, i, x, y, hx, hy => by
    simp only [List.getElem?_map, Option.map_eq_some_iff] at hx
    obtain ⟨p, hp, rfl⟩ := hx
    simp only [List.getElem?_toArray, List.getElem?_map, hp, Option.map_some, Option.some.injEq] at hy
    subst hy
    exact .int _ _
end Ey
