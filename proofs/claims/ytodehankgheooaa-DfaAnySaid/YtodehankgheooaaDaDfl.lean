/- Machines and texts, in plain lists: what a walk tells is what the longest of all pieces is told. No program stands here. -/
namespace Ey.Da

variable (cls : List Int) (next : List (List Int)) (ends : List Int)

/-- where a byte leads to -/
def nx (s : Nat) (c : UInt8) : Int := (next.getD s []).getD (cls.getD c.toNat 0).toNat 0

def go : Nat → List UInt8 → Option Nat
  | s, [] => some s
  | s, c :: w => if nx cls next s c < 0 then none else go (nx cls next s c).toNat w

def runL (w : List UInt8) : Int := match go cls next 0 w with
  | none => -1
  | some s => ends.getD s 0

def wk : Nat → Nat → Int × Int → List UInt8 → Int × Int
  | _, _, b, [] => b
  | s, i, b, c :: w => if nx cls next s c < 0 then b else
    wk (nx cls next s c).toNat (i + 1) (if 0 ≤ ends.getD (nx cls next s c).toNat 0 then (ends.getD (nx cls next s c).toNat 0, ((i + 1 : Nat) : Int)) else b) w

/-- the longest piece that is a token, of so many bytes at most -/
def lg (w : List UInt8) : Nat → Int × Int
  | 0 => (-1, 0)
  | n + 1 => if 0 ≤ runL cls next ends (w.take (n + 1)) then (runL cls next ends (w.take (n + 1)), ((n + 1 : Nat) : Int)) else lg w n

theorem go_append (v : List UInt8) : ∀ (u : List UInt8) (s : Nat), go cls next s (u ++ v) = (go cls next s u).bind fun t => go cls next t v
  | [], s => rfl
  | c :: u, s => by
    simp only [List.cons_append, go]
    split
    · rfl
    · exact go_append v u _

theorem lg_none {w u : List UInt8} {c : UInt8} {v : List UInt8} {s : Nat} (hw : w = u ++ c :: v) (hu : go cls next 0 u = some s) (hn : nx cls next s c < 0) : ∀ k, lg cls next ends w (u.length + k) = lg cls next ends w u.length
  | 0 => rfl
  | k + 1 => by
    have ht : w.take (u.length + k + 1) = u ++ c :: v.take k := by
      rw [hw, show u.length + k + 1 = u.length + (k + 1) by omega, List.take_length_add_append]; rfl
    have hg : go cls next 0 (w.take (u.length + k + 1)) = none := by
      rw [ht, go_append, hu]
      simp only [Option.bind_some, go, if_pos hn]
    have hr : runL cls next ends (w.take (u.length + k + 1)) = -1 := by simp only [runL, hg]
    show (if 0 ≤ runL cls next ends (w.take (u.length + k + 1)) then _ else lg cls next ends w (u.length + k)) = _
    rw [hr, if_neg (by omega)]
    exact lg_none hw hu hn k

theorem wk_lg {w : List UInt8} : ∀ (v u : List UInt8) (s : Nat), w = u ++ v → go cls next 0 u = some s → wk cls next ends s u.length (lg cls next ends w u.length) v = lg cls next ends w w.length
  | [], u, s, hw, _ => by rw [List.append_nil] at hw; rw [hw]; rfl
  | c :: v, u, s, hw, hu => by
    simp only [wk]
    split
    · rename_i hn
      have := lg_none cls next ends hw hu hn (v.length + 1)
      rw [← this]
      congr 1
      rw [hw]; simp
    · rename_i hn
      have hu' : go cls next 0 (u ++ [c]) = some (nx cls next s c).toNat := by
        rw [go_append, hu]
        simp only [Option.bind_some, go, if_neg hn]
      have hw' : w = (u ++ [c]) ++ v := by rw [hw]; simp
      have ih := wk_lg v (u ++ [c]) _ hw' hu'
      have ht : w.take (u.length + 1) = u ++ [c] := by
        rw [hw', show u.length + 1 = (u ++ [c]).length by simp, List.take_left']
        rfl
      have hr : runL cls next ends (w.take (u.length + 1)) = ends.getD (nx cls next s c).toNat 0 := by
        rw [ht]; simp only [runL, hu']
      have hl : lg cls next ends w (u ++ [c]).length = if 0 ≤ ends.getD (nx cls next s c).toNat 0 then (ends.getD (nx cls next s c).toNat 0, ((u.length + 1 : Nat) : Int)) else lg cls next ends w u.length := by
        have : (u ++ [c]).length = u.length + 1 := by simp
        rw [this]
        simp only [lg, hr]
      rw [hl] at ih
      have e : (u ++ [c]).length = u.length + 1 := by simp
      rw [e] at ih
      exact ih

/-- THE PLAIN LAW -/
theorem walk_longest (w : List UInt8) : wk cls next ends 0 0 (-1, 0) w = lg cls next ends w w.length := wk_lg cls next ends w [] 0 rfl rfl

/-! ### which machines may be -/
def mxI (a : Int) (l : List Int) : Int := l.foldl max a
def mnI (a : Int) (l : List Int) : Int := l.foldl min a
theorem mxI_le (n : Int) : ∀ (l : List Int) (a : Int), mxI a l ≤ n ↔ a ≤ n ∧ ∀ x ∈ l, x ≤ n
  | [], a => by simp [mxI]
  | x :: l, a => by
    have := mxI_le n l (max a x)
    simp only [mxI, List.foldl_cons] at this ⊢
    rw [this]
    simp only [List.mem_cons, forall_eq_or_imp]
    constructor
    · rintro ⟨h1, h2⟩; exact ⟨by omega, by omega, h2⟩
    · rintro ⟨h1, h2, h3⟩; exact ⟨by omega, h3⟩
theorem le_mnI (n : Int) : ∀ (l : List Int) (a : Int), n ≤ mnI a l ↔ n ≤ a ∧ ∀ x ∈ l, n ≤ x
  | [], a => by simp [mnI]
  | x :: l, a => by
    have := le_mnI n l (min a x)
    simp only [mnI, List.foldl_cons] at this ⊢
    rw [this]
    simp only [List.mem_cons, forall_eq_or_imp]
    constructor
    · rintro ⟨h1, h2⟩; exact ⟨by omega, by omega, h2⟩
    · rintro ⟨h1, h2, h3⟩; exact ⟨by omega, h3⟩

/-- how many classes there are -/
def nCls : Int := mxI 0 cls + 1

structure May : Prop where
  ne : next ≠ []
  len : ends.length = next.length
  lo : ∀ x ∈ ends, -1 ≤ x
  rows : ∀ r ∈ next, (r.length : Int) = nCls cls ∧ ∀ x ∈ r, -1 ≤ x ∧ x < next.length
end Ey.Da
