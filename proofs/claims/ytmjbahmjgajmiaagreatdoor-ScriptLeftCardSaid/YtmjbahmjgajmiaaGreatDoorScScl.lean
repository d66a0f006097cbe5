/- Which commands bytes say, kind by kind. -/
import Derived.Test.YtmjbahmjgajmiaaGreatDoorScScr
namespace Ey.Scr

theorem ok_iff (c : MC) : Ok c ↔ 1 ≤ c.kind ∧ c.kind ≤ 10 ∧ (if one c.kind then 0 ≤ c.a ∧ c.a < 65536 else c.a = 0) ∧ (if two c.kind then 0 ≤ c.b ∧ c.b < 65536 else c.b = 0) ∧ (if c.kind = 7 then c.text.length < 256 else c.text = []) ∧ (if c.kind = 9 then c.pages.length < 256 ∧ ∀ x ∈ c.pages, 0 ≤ x ∧ x < 256 else c.pages = []) :=
  ⟨fun h => ⟨h.lo, h.hi, h.a, h.b, h.text, h.pages⟩, fun ⟨h1, h2, h3, h4, h5, h6⟩ => ⟨h1, h2, h3, h4, h5, h6⟩⟩

theorem ok_window {k : Int} (h : k = 1 ∨ k = 2 ∨ k = 3) (a b : Int) (t : List UInt8) (p : List Int) : Ok ⟨k, a, b, t, p⟩ ↔ (0 ≤ a ∧ a < 65536) ∧ (0 ≤ b ∧ b < 65536) ∧ t = [] ∧ p = [] := by
  rw [ok_iff]
  rcases h with rfl | rfl | rfl <;> simp [one, two]
theorem ok_place {k : Int} (h : k = 4 ∨ k = 5 ∨ k = 6) (a b : Int) (t : List UInt8) (p : List Int) : Ok ⟨k, a, b, t, p⟩ ↔ (0 ≤ a ∧ a < 65536) ∧ b = 0 ∧ t = [] ∧ p = [] := by
  rw [ok_iff]
  rcases h with rfl | rfl | rfl <;> simp [one, two]
theorem ok_edit (a b : Int) (t : List UInt8) (p : List Int) : Ok ⟨7, a, b, t, p⟩ ↔ (0 ≤ a ∧ a < 65536) ∧ (0 ≤ b ∧ b < 65536) ∧ t.length < 256 ∧ p = [] := by
  rw [ok_iff]
  simp [one, two]
theorem ok_bare {k : Int} (h : k = 8 ∨ k = 10) (a b : Int) (t : List UInt8) (p : List Int) : Ok ⟨k, a, b, t, p⟩ ↔ a = 0 ∧ b = 0 ∧ t = [] ∧ p = [] := by
  rw [ok_iff]
  rcases h with rfl | rfl <;> simp [one, two]
theorem ok_faults (a b : Int) (t : List UInt8) (p : List Int) : Ok ⟨9, a, b, t, p⟩ ↔ a = 0 ∧ b = 0 ∧ t = [] ∧ p.length < 256 ∧ ∀ x ∈ p, 0 ≤ x ∧ x < 256 := by
  rw [ok_iff]
  simp [one, two]
theorem ok_none {k : Int} (h : k = 0 ∨ k = 11 ∨ k = 12) (a b : Int) (t : List UInt8) (p : List Int) : ¬ Ok ⟨k, a, b, t, p⟩ := by
  rw [ok_iff]
  rcases h with rfl | rfl | rfl <;> simp
end Ey.Scr
