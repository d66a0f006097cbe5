/- The memory grows by a block; some cells are written: what stays as it was. -/
import Derived.Test.YtjcnpcdcpfbpdaaGreatDoorEyOp6
namespace Ey
open Go Go.RowKit

/-- one block more, all else as it was -/
structure New (w w' : World) : Prop where
  os : w'.os = w.os
  tape : w'.tape = w.tape
  output : w'.output = w.output
  size : w'.heap.size = w.heap.size + 1
  old : ∀ b, b < w.heap.size → w'.heap[b]? = w.heap[b]?

theorem New.alloc (w : World) (o : Obj) : New w (w.alloc o) := ⟨rfl, rfl, rfl, by simp, fun b hb => heap_alloc_old w o b hb⟩
theorem New.drew_alloc (w : World) (o : Obj) : New w (w.drew.alloc o) := ⟨rfl, rfl, rfl, by simp, fun b hb => heap_alloc_old w.drew o b hb⟩
theorem New.cell {w w' : World} (h : New w w') {b o : Nat} (hb : b < w.heap.size) : w'.cell? ⟨b, o, none⟩ = w.cell? ⟨b, o, none⟩ := World.cell?_of_block (w := w) (h.old b hb)
theorem New.frozen {w w' : World} (h : New w w') {b o : Nat} (hb : b < w.heap.size) : w'.frozen? ⟨b, o, none⟩ = w.frozen? ⟨b, o, none⟩ := World.frozen?_of_block (w := w) (h.old b hb)
theorem New.below {w w' : World} (h : New w w') {B : Nat} (hB : B ≤ w.heap.size) : Below B w w' :=
  ⟨h.os, h.tape, h.output, by have := h.size; omega, fun k hk => h.old k (by omega)⟩

def Gh.grow (g : Gh) (nb : Nat) (Gn : Nat → Option Value) : Gh := { g with G := fun b o => if b = nb then Gn o else g.G b o }
def growOwn (own : Own) (nb : Nat) (no : Nat → Owner) : Own := fun b o => if b = nb then no o else own b o

section
variable {C : Cx} {g : Gh} {own : Own} {B : Nat} {H : Heap} {w w' : World} {env : Env} {tmps : Array Value} {n : Nat} {L : List Nat}

theorem St.lt (hS : St C g own B H w) {b o : Nat} (h : own b o ≠ .free) : b < w.heap.size := (hS.ext b o).resolve_left h

theorem St.fresh (hS : St C g own B H w) (o : Nat) : own w.heap.size o = .free := by
  rcases hS.ext w.heap.size o with h | h
  · exact h
  · omega

theorem St.G_none (hS : St C g own B H w) (o : Nat) : g.G w.heap.size o = none := by
  cases h : g.G w.heap.size o with
  | none => rfl
  | some v =>
    have := (hS.imm _ _ _ h).1
    rw [hS.fresh] at this
    cases this

theorem Gh.le_grow (hS : St C g own B H w) (Gn : Nat → Option Value) : g.Le (g.grow w.heap.size Gn) where
  G := fun b o v h => by
    simp only [Gh.grow]
    by_cases hb : b = w.heap.size
    · subst hb; rw [hS.G_none] at h; cases h
    · rw [if_neg hb]; exact h
  ob := fun _ _ h => h
  ar := fun _ _ _ h => h

theorem growOwn_old (hS : St C g own B H w) (no : Nat → Owner) {b o : Nat} (h : own b o ≠ .free) : growOwn own w.heap.size no b o = own b o := by
  have := hS.lt h
  simp only [growOwn]
  rw [if_neg (by omega)]

theorem cells_grow (hS : St C g own B H w) (hN : New w w') (Gn : Nat → Option Value) (no : Nat → Owner) {ow : Owner} (how : ow ≠ .free) {b o : Nat} {cs : List AV} (h : CellsAt C g own w ow b o cs) :
    CellsAt C (g.grow w.heap.size Gn) (growOwn own w.heap.size no) w' ow b o cs := by
  refine ⟨h.1, fun j y hy => ?_⟩
  obtain ⟨h1, v, h2, h3, h4⟩ := h.2 j y hy
  have hlt : b < w.heap.size := hS.lt (o := o + j) (by rw [h1]; exact how)
  exact ⟨by rw [growOwn_old hS no (by rw [h1]; exact how)]; exact h1, v, by rw [hN.cell hlt]; exact h2, by rw [hN.frozen hlt]; exact h3, h4.mono (Gh.le_grow hS Gn)⟩

theorem arr_grow (hS : St C g own B H w) (hN : New w w') (Gn : Nat → Option Value) (no : Nat → Owner) {id : Nat} {nl : Bool} {sz : Nat} {xs : List AV} {ph : Ph} (h : ArrAt C g own w id nl sz xs ph) :
    ArrAt C (g.grow w.heap.size Gn) (growOwn own w.heap.size no) w' id nl sz xs ph := by
  obtain ⟨h1, h2⟩ := h
  refine ⟨h1, ?_⟩
  cases hb : ph.base with
  | none => rw [hb] at h2; exact h2
  | some p =>
    obtain ⟨b, o⟩ := p
    rw [hb] at h2
    obtain ⟨k1, k2, k3, k4, k5⟩ := h2
    refine ⟨k1, k2, k3, fun k hk => ?_, fun i x j y hx hy => ?_⟩
    · obtain ⟨m1, v, m2, m3, m4⟩ := k4 k hk
      have hlt : b < w.heap.size := hS.lt (o := o + k) (by rw [m1]; simp)
      exact ⟨by rw [growOwn_old hS no (by rw [m1]; simp)]; exact m1, v, by rw [hN.cell hlt]; exact m2, by rw [hN.frozen hlt]; exact m3, m4⟩
    · obtain ⟨v, m1, m2⟩ := k5 i x j y hx hy
      have hi : i < xs.length := (List.getElem?_eq_some_iff.1 hx).1
      have hj : j < sz := by
        have := (List.getElem?_eq_some_iff.1 hy).1
        have := (k3 i x hx).1
        omega
      have hk : i * sz + j < ph.cap * sz := by
        have : (i + 1) * sz ≤ ph.cap * sz := Nat.mul_le_mul_right _ (by omega)
        rw [Nat.add_mul] at this
        omega
      have hlt : b < w.heap.size := hS.lt (o := o + (i * sz + j)) (by rw [(k4 _ hk).1]; simp)
      exact ⟨v, by rw [hN.cell hlt]; exact m1, m2.mono (Gh.le_grow hS Gn)⟩

theorem St.grow (hS : St C g own B H w) (hN : New w w') (Gn : Nat → Option Value) (no : Nat → Owner)
    (hn : ∀ o v, Gn o = some v → no o = .imm ∧ w'.cell? ⟨w.heap.size, o, none⟩ = some v) : St C (g.grow w.heap.size Gn) (growOwn own w.heap.size no) B H w' where
  imm := fun b o v h => by
    simp only [Gh.grow, growOwn] at h ⊢
    by_cases hb : b = w.heap.size
    · subst hb
      rw [if_pos rfl] at h ⊢
      exact hn o v h
    · rw [if_neg hb] at h ⊢
      obtain ⟨h1, h2⟩ := hS.imm b o v h
      exact ⟨h1, by rw [hN.cell (hS.lt (o := o) (by rw [h1]; simp))]; exact h2⟩
  obj := fun id cs h => by
    obtain ⟨b, o, h1, h2⟩ := hS.obj id cs h
    exact ⟨b, o, h1, cells_grow hS hN Gn no (by simp) h2⟩
  arr := fun id nl sz xs h => by
    obtain ⟨⟨ph, h1, h2⟩, h3⟩ := hS.arr id nl sz xs h
    exact ⟨⟨ph, h1, arr_grow hS hN Gn no h2⟩, h3⟩
  mp := fun id es h => (hS.mp id es h).step (Gh.le_grow hS Gn) (fun b hb => by rw [growOwn_old hS no (by rw [hb]; simp)]; exact hb) fun b ms c hb hm => by
    rw [hN.old b (hS.lt (o := 0) (by rw [hb]; simp))]; exact hm
  next := hS.next
  ext := fun b o => by
    simp only [growOwn]
    by_cases hb : b = w.heap.size
    · exact .inr (by have := hN.size; omega)
    · rw [if_neg hb]
      rcases hS.ext b o with h | h
      · exact .inl h
      · exact .inr (by have := hN.size; omega)
  base := fun b o => by
    simp only [growOwn]
    by_cases hb : b = w.heap.size
    · intro _; have := hS.size; omega
    · rw [if_neg hb]; exact hS.base b o
  size := by have := hN.size; have := hS.size; omega
  ro := hS.ro
  gl := fun b o v h => (Gh.le_grow hS Gn).G b o v (hS.gl b o v h)

theorem Ext.grow (hS : St C g own B H w) (hN : New w w') (Gn : Nat → Option Value) (no : Nat → Owner) : Ext g own B H w (g.grow w.heap.size Gn) (growOwn own w.heap.size no) H w' where
  le := Gh.le_grow hS Gn
  ob := fun _ _ => rfl
  ar := fun _ _ _ => rfl
  get := fun _ _ => rfl
  ro := rfl
  next := Nat.le_refl _
  fr := fun b o h => by
    have hlt := hS.lt (o := o) (b := b) (by rw [h]; simp)
    exact ⟨by rw [growOwn_old hS no (by rw [h]; simp)]; exact h, hN.cell hlt, hN.frozen hlt⟩
  below := hN.below hS.size

theorem Fr.grow (hS : St C g own B H w) (hN : New w w') (Gn : Nat → Option Value) (no : Nat → Owner) (hF : Fr C g own w env tmps n L) :
    Fr C (g.grow w.heap.size Gn) (growOwn own w.heap.size no) w' env tmps n L where
  size := hF.size
  lvs := hF.lvs
  gl := fun b o v h => (Gh.le_grow hS Gn).G b o v (hF.gl b o v h)
  slots := fun s => by
    have h := hF.slots s
    simp only [SlotOK] at h ⊢
    cases he : env.get s with
    | no => simp
    | un => rw [he] at h; exact h
    | v x => rw [he] at h; exact h.mono (Gh.le_grow hS Gn)
    | lv cs =>
      rw [he] at h
      obtain ⟨b, o, h1, h2⟩ := h
      exact ⟨b, o, h1, cells_grow hS hN Gn no (by simp) h2⟩
    | lp s' off => rw [he] at h; exact h

theorem SlR.mono {C : Cx} {g g' : Gh} (h : g.Le g') {env : Env} {tm : Nat → Value} {x : Sl} {v : Value} (r : SlR C g env tm x v) : SlR C g' env tm x v := by
  cases x with
  | v y => exact VR.mono h r
  | no => trivial
  | un => exact r
  | lv cs => trivial
  | lp s off => exact r

theorem tmOf_set {tmps : Array Value} {d s : Nat} {v : Value} (hd : d < tmps.size) : tmOf (tmps.setIfInBounds d v) s = if s = d then v else tmOf tmps s := by
  unfold tmOf
  simp only [Array.getD_eq_getD_getElem?, Array.getElem?_setIfInBounds]
  by_cases h : d = s
  · subst h; simp [hd]
  · rw [if_neg h, if_neg (fun e => h e.symm)]

/-- what an operation's slot is given: nothing that is made in place -/
def Sl.plain : Sl → Bool
  | .v _ => true
  | .lp _ _ => true
  | .un => true
  | _ => false

theorem Fr.set (hF : Fr C g own w env tmps n L) {d : Nat} (hd : d < n) (hL : d ∉ L) {x : Sl} {v : Value} (hx : SlR C g env (tmOf tmps) x v) (hp : x.plain = true) :
    Fr C g own w ((d, x) :: env) (tmps.setIfInBounds d v) n L := by
  have hsz : d < tmps.size := by rw [hF.size]; exact hd
  have hnl : ∀ cs, env.get d ≠ .lv cs := fun cs h => hL (hF.lvs d cs h)
  have hget : ∀ s, Env.get ((d, x) :: env) s = if s = d then x else env.get s := fun s => rfl
  refine ⟨by simp [hF.size], fun s => ?_, fun s cs h => ?_, hF.gl⟩
  · simp only [SlotOK, hget, tmOf_set hsz]
    by_cases hs : s = d
    · subst hs
      rw [if_pos rfl, if_pos rfl]
      cases x with
      | no => trivial
      | un => exact hx
      | v y => exact hx
      | lv cs => simp [Sl.plain] at hp
      | lp s' off =>
        obtain ⟨cs, b, o, h1, h2, h3⟩ := hx
        have hne : s' ≠ s := fun e => hnl cs (e ▸ h1)
        exact ⟨cs, b, o, by rw [if_neg hne]; exact h1, by rw [if_neg hne]; exact h2, h3⟩
    · rw [if_neg hs, if_neg hs]
      have h := hF.slots s
      simp only [SlotOK] at h
      cases he : env.get s with
      | no => trivial
      | un => rw [he] at h; exact h
      | v y => rw [he] at h; exact h
      | lv cs => rw [he] at h; exact h
      | lp s' off =>
        rw [he] at h
        obtain ⟨cs, b, o, h1, h2, h3⟩ := h
        have hne : s' ≠ d := fun e => hnl cs (e ▸ h1)
        exact ⟨cs, b, o, by rw [if_neg hne]; exact h1, by rw [if_neg hne]; exact h2, h3⟩
  · rw [hget] at h
    by_cases hs : s = d
    · rw [if_pos hs] at h; subst h; simp [Sl.plain] at hp
    · rw [if_neg hs] at h; exact hF.lvs s cs h

/-- a slot in which a local variable is made, in a block of its own -/
theorem Fr.setLv (hS : St C g own B H w) (hN : New w w') (hF : Fr C g own w env tmps n L) {d : Nat} (hd : d < n) (hL : d ∈ L) (hnl : ∀ cs, env.get d ≠ .lv cs) {cs : List AV} {vs : List Value}
    (hcs : CR C g cs vs) (hv : ∀ j v, vs[j]? = some v → w'.cell? ⟨w.heap.size, j, none⟩ = some v ∧ w'.frozen? ⟨w.heap.size, j, none⟩ = false) :
    Fr C (g.grow w.heap.size fun _ => none) (growOwn own w.heap.size fun _ => .slot d) w' ((d, .lv cs) :: env) (tmps.setIfInBounds d (.pointer (some ⟨w.heap.size, 0, none⟩))) n L := by
  have hsz : d < tmps.size := by rw [hF.size]; exact hd
  have hget : ∀ s, Env.get ((d, .lv cs) :: env) s = if s = d then .lv cs else env.get s := fun s => rfl
  have hG := hF.grow hS hN (fun _ => none) (fun _ => .slot d)
  refine ⟨by simp [hF.size], fun s => ?_, fun s cs' h => ?_, hG.gl⟩
  · simp only [SlotOK, hget, tmOf_set hsz]
    by_cases hs : s = d
    · subst hs
      rw [if_pos rfl, if_pos rfl]
      refine ⟨w.heap.size, 0, rfl, hcs.one, fun j y hy => ?_⟩
      have hj := (List.getElem?_eq_some_iff.1 hy).1
      have hj' : j < vs.length := by have := hcs.len; omega
      obtain ⟨h1, h2⟩ := hv j _ (List.getElem?_eq_getElem hj')
      refine ⟨by simp [growOwn], vs[j], by rw [Nat.zero_add]; exact h1, by rw [Nat.zero_add]; exact h2, ?_⟩
      exact (hcs.rel j y _ hy (List.getElem?_eq_getElem hj')).mono (Gh.le_grow hS _)
    · rw [if_neg hs, if_neg hs]
      have h := hG.slots s
      simp only [SlotOK] at h
      cases he : env.get s with
      | no => trivial
      | un => rw [he] at h; exact h
      | v y => rw [he] at h; exact h
      | lv cs => rw [he] at h; exact h
      | lp s' off =>
        rw [he] at h
        obtain ⟨cs', b, o, h1, h2, h3⟩ := h
        have hne : s' ≠ d := fun e => hnl cs' (e ▸ h1)
        exact ⟨cs', b, o, by rw [if_neg hne]; exact h1, by rw [if_neg hne]; exact h2, h3⟩
  · rw [hget] at h
    by_cases hs : s = d
    · exact hs ▸ hL
    · rw [if_neg hs] at h; exact hF.lvs s cs' h

end
end Ey
