/- Bytes and numbers as arguments. -/
import Derived.Test.YtmjbahmjgajmiaaGreatDoorScSe
import Derived.Test.YtmjbahmjgajmiaaGreatDoorEyB3
set_option maxRecDepth 100000
namespace Ey.Sc
open Go (IntKind)

theorem bytes_of : ∀ {xs : List AV}, (∀ x ∈ xs, x.one = true ∧ x.cells.length = 1) → (∀ x ∈ xs, ∀ (i : Nat) (s : Sc) (y : AV), ([.int .u8] : List Sc)[i]? = some s → x.cells[i]? = some y → Imp s y) → ∃ l : List UInt8, xs = l.map byt
  | [], _, _ => ⟨[], rfl⟩
  | x :: xs, h1, h2 => by
    obtain ⟨l, hl⟩ := bytes_of (xs := xs) (fun y hy => h1 y (by simp [hy])) (fun y hy => h2 y (by simp [hy]))
    have ho := (h1 x (by simp)).1
    have := h2 x (by simp) 0 (.int .u8) x rfl (by rw [AV.one_cells ho]; rfl)
    cases this with
    | int _ n hw =>
      have hb := Go.bounds_u8 hw
      refine ⟨UInt8.ofNat n.toNat :: l, ?_⟩
      rw [List.map_cons, ← hl]
      congr 1
      unfold byt
      rw [UInt8.toNat_ofNat']
      congr 1
      omega
theorem imp_bytes {x : AV} (h : Imp (.sl false [.int .u8]) x) : ∃ (f : Option Bool) (l : List UInt8), x = lv f (l.map byt) ∧ Fo f (l.map byt) := by
  cases h with
  | nil => exact ⟨some true, [], rfl, fun _ => rfl⟩
  | c0 => exact ⟨none, [], rfl, fun _ => rfl⟩
  | list _ _ xs _ h1 h2 =>
    obtain ⟨l, rfl⟩ := bytes_of (fun x hx => by simpa using h1 x hx) h2
    exact ⟨some false, l, rfl, fo_false _⟩
theorem ints_of : ∀ {xs : List AV}, (∀ x ∈ xs, x.one = true ∧ x.cells.length = 1) → (∀ x ∈ xs, ∀ (i : Nat) (s : Sc) (y : AV), ([.int .i64] : List Sc)[i]? = some s → x.cells[i]? = some y → Imp s y) → ∃ l : List Int, xs = ints .i64 l
  | [], _, _ => ⟨[], rfl⟩
  | x :: xs, h1, h2 => by
    obtain ⟨l, hl⟩ := ints_of (xs := xs) (fun y hy => h1 y (by simp [hy])) (fun y hy => h2 y (by simp [hy]))
    have ho := (h1 x (by simp)).1
    have := h2 x (by simp) 0 (.int .i64) x rfl (by rw [AV.one_cells ho]; rfl)
    cases this with
    | int _ n hw => exact ⟨n :: l, by rw [hl]; rfl⟩
theorem imp_ints {x : AV} (h : Imp (.sl false [.int .i64]) x) : ∃ (f : Option Bool) (l : List Int), x = lv f (ints .i64 l) ∧ Fo f (ints .i64 l) := by
  cases h with
  | nil => exact ⟨some true, [], rfl, fun _ => rfl⟩
  | c0 => exact ⟨none, [], rfl, fun _ => rfl⟩
  | list _ _ xs _ h1 h2 =>
    obtain ⟨l, rfl⟩ := ints_of (fun x hx => by simpa using h1 x hx) h2
    exact ⟨some false, l, rfl, fo_false _⟩

theorem bodyH0 (af : AFn) : bodyH af heap0 = heap0 := by unfold bodyH; split <;> rfl
theorem fresh0 : Fresh heap0 := fun _ _ => rfl
end Ey.Sc
