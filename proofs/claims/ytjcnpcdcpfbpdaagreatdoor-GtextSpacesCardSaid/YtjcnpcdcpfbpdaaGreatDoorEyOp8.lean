/- One block of the heap changes; some cells are written. -/
import Derived.Test.YtjcnpcdcpfbpdaaGreatDoorEyOp7
namespace Ey
open Go Go.RowKit

/-- how a block of the heap lies in memory -/
def BlkR (C : Cx) (g : Gh) (own : Own) (w : World) (id : Nat) : Blk → Prop
  | .obj cs => ∃ b o, g.ob id = some (b, o) ∧ CellsAt C g own w (.heap id) b o cs
  | .arr nl sz xs => (∃ ph, g.ar id xs.length = some ph ∧ ArrAt C g own w id nl sz xs ph) ∧ ∀ n ph, g.ar id n = some ph → ph.sz = sz ∧ n ≤ xs.length
  | .map es => MapAt C g own w id es

structure Chg (C : Cx) (g : Gh) (own : Own) (B : Nat) (H : Heap) (w : World) (g' : Gh) (own' : Own) (H' : Heap) (w' : World) (id0 : Nat) : Prop where
  le : g.Le g'
  keep : ∀ b o, own b o ≠ .free → own b o ≠ .heap id0 → own' b o = own b o ∧ w'.cell? ⟨b, o, none⟩ = w.cell? ⟨b, o, none⟩ ∧ w'.frozen? ⟨b, o, none⟩ = w.frozen? ⟨b, o, none⟩
  maps : ∀ (b : Nat) (es : Array MapEntry) (c : Nat), own b 0 ≠ .free → own b 0 ≠ .heap id0 → w.heap[b]? = some (Obj.map es c) → w'.heap[b]? = some (Obj.map es c)
  G : ∀ b o v, g'.G b o = some v → own' b o = .imm ∧ w'.cell? ⟨b, o, none⟩ = some v
  ob : ∀ id, id ≠ id0 → g'.ob id = g.ob id
  ob0 : id0 < H.next → g'.ob id0 = g.ob id0
  ar : ∀ id, id ≠ id0 → ∀ n, g'.ar id n = g.ar id n
  get : ∀ id, id ≠ id0 → H'.get id = H.get id
  new : ∀ bl, H'.get id0 = some bl → BlkR C g' own' w' id0 bl
  ro : H'.ro = H.ro
  next : H.next ≤ H'.next
  lt : id0 < H'.next
  ge : H.ro ≤ id0
  ext : ∀ b o, own' b o = .free ∨ b < w'.heap.size
  base : ∀ b o, (∃ x, own' b o = .heap x ∨ own' b o = .slot x) → B ≤ b
  below : Below B w w'

section
variable {C : Cx} {g g' : Gh} {own own' : Own} {B : Nat} {H H' : Heap} {w w' : World} {env : Env} {tmps : Array Value} {n id0 : Nat} {L : List Nat}

theorem Chg.cells (h : Chg C g own B H w g' own' H' w' id0) {ow : Owner} (h0 : ow ≠ .free) (h1 : ow ≠ .heap id0) {b o : Nat} {cs : List AV} (hc : CellsAt C g own w ow b o cs) : CellsAt C g' own' w' ow b o cs := by
  refine ⟨hc.1, fun j y hy => ?_⟩
  obtain ⟨k1, v, k2, k3, k4⟩ := hc.2 j y hy
  obtain ⟨m1, m2, m3⟩ := h.keep b (o + j) (by rw [k1]; exact h0) (by rw [k1]; exact h1)
  exact ⟨by rw [m1]; exact k1, v, by rw [m2]; exact k2, by rw [m3]; exact k3, k4.mono h.le⟩

theorem idx_lt {i j sz n c : Nat} (hi : i < n) (hn : n ≤ c) (hj : j < sz) : i * sz + j < c * sz := by
  have : (i + 1) * sz ≤ c * sz := Nat.mul_le_mul_right _ (by omega)
  rw [Nat.add_mul] at this
  omega

theorem Chg.arrAt (h : Chg C g own B H w g' own' H' w' id0) {id : Nat} (hid : id ≠ id0) {nl : Bool} {sz : Nat} {xs : List AV} {ph : Ph} (hc : ArrAt C g own w id nl sz xs ph) : ArrAt C g' own' w' id nl sz xs ph := by
  obtain ⟨h1, h2⟩ := hc
  refine ⟨h1, ?_⟩
  cases hb : ph.base with
  | none => rw [hb] at h2; exact h2
  | some p =>
    obtain ⟨b, o⟩ := p
    rw [hb] at h2
    obtain ⟨k1, k2, k3, k4, k5⟩ := h2
    have hk : ∀ k, k < ph.cap * sz → own' b (o + k) = own b (o + k) ∧ w'.cell? ⟨b, o + k, none⟩ = w.cell? ⟨b, o + k, none⟩ ∧ w'.frozen? ⟨b, o + k, none⟩ = w.frozen? ⟨b, o + k, none⟩ := fun k hk =>
      h.keep b (o + k) (by rw [(k4 k hk).1]; simp) (by rw [(k4 k hk).1]; simpa using hid)
    refine ⟨k1, k2, k3, fun k hlt => ?_, fun i x j y hx hy => ?_⟩
    · obtain ⟨m1, v, m2, m3, m4⟩ := k4 k hlt
      obtain ⟨p1, p2, p3⟩ := hk k hlt
      exact ⟨by rw [p1]; exact m1, v, by rw [p2]; exact m2, by rw [p3]; exact m3, m4⟩
    · obtain ⟨v, m1, m2⟩ := k5 i x j y hx hy
      have hi : i < xs.length := (List.getElem?_eq_some_iff.1 hx).1
      have hj : j < sz := by
        have := (List.getElem?_eq_some_iff.1 hy).1
        have := (k3 i x hx).1
        omega
      obtain ⟨p1, p2, p3⟩ := hk (i * sz + j) (idx_lt hi k2 hj)
      refine ⟨v, ?_, m2.mono h.le⟩
      rw [Nat.add_assoc] at m1 ⊢
      rw [p2]; exact m1

theorem Chg.st (hS : St C g own B H w) (h : Chg C g own B H w g' own' H' w' id0) : St C g' own' B H' w' where
  imm := h.G
  obj := fun id cs hg => by
    by_cases hid : id = id0
    · subst hid; exact h.new _ hg
    · rw [h.get id hid] at hg
      obtain ⟨b, o, h1, h2⟩ := hS.obj id cs hg
      exact ⟨b, o, by rw [h.ob id hid]; exact h1, h.cells (by simp) (by simpa using hid) h2⟩
  arr := fun id nl sz xs hg => by
    by_cases hid : id = id0
    · subst hid; exact h.new _ hg
    · rw [h.get id hid] at hg
      obtain ⟨⟨ph, h1, h2⟩, h3⟩ := hS.arr id nl sz xs hg
      exact ⟨⟨ph, by rw [h.ar id hid]; exact h1, h.arrAt hid h2⟩, fun n ph hh => by rw [h.ar id hid] at hh; exact h3 n ph hh⟩
  mp := fun id es hg => by
    by_cases hid : id = id0
    · subst hid; exact h.new _ hg
    · rw [h.get id hid] at hg
      exact (hS.mp id es hg).step h.le (fun b hb => (h.keep b 0 (by rw [hb]; simp) (by rw [hb]; simpa using hid)).1.trans hb) fun b ms c hb hm => h.maps b ms c (by rw [hb]; simp) (by rw [hb]; simpa using hid) hm
  next := fun id hid => by
    have hne : id ≠ id0 := by have := h.lt; omega
    have := h.next
    obtain ⟨h1, h2, h3⟩ := hS.next id (by omega)
    exact ⟨by rw [h.get id hne]; exact h1, by rw [h.ob id hne]; exact h2, fun n => by rw [h.ar id hne]; exact h3 n⟩
  ext := h.ext
  base := h.base
  size := by have := hS.size; have := h.below.size; omega
  ro := by have := hS.ro; have := h.ro; have := h.next; omega
  gl := fun b o v hv => h.le.G b o v (hS.gl b o v hv)

theorem Chg.fr (hF : Fr C g own w env tmps n L) (h : Chg C g own B H w g' own' H' w' id0) : Fr C g' own' w' env tmps n L where
  size := hF.size
  lvs := hF.lvs
  gl := fun b o v hv => h.le.G b o v (hF.gl b o v hv)
  slots := fun s => by
    have k := hF.slots s
    simp only [SlotOK] at k ⊢
    cases he : env.get s with
    | no => trivial
    | un => rw [he] at k; exact k
    | v x => rw [he] at k; exact k.mono h.le
    | lv cs =>
      rw [he] at k
      obtain ⟨b, o, h1, h2⟩ := k
      exact ⟨b, o, h1, h.cells (by simp) (by simp) h2⟩
    | lp s' off => rw [he] at k; exact k

theorem Chg.toExt (h : Chg C g own B H w g' own' H' w' id0) : Ext g own B H w g' own' H' w' where
  le := h.le
  ob := fun id hid => by
    by_cases e : id = id0
    · subst e; exact h.ob0 hid
    · exact h.ob id e
  ar := fun id hid n => h.ar id (by have := h.ge; omega) n
  get := fun id hid => h.get id (by have := h.ge; omega)
  ro := h.ro
  next := h.next
  fr := fun b o hb => by
    obtain ⟨h1, h2, h3⟩ := h.keep b o (by rw [hb]; simp) (by rw [hb]; simp)
    exact ⟨by rw [h1]; exact hb, h2, h3⟩
  below := h.below

/-- cells written, from a place on -/
structure Wr (w w' : World) (b o : Nat) (vs : List Value) : Prop where
  inn : ∀ j v, vs[j]? = some v → w'.cell? ⟨b, o + j, none⟩ = some v
  out : ∀ b' o', ¬ (b' = b ∧ o ≤ o' ∧ o' < o + vs.length) → w'.cell? ⟨b', o', none⟩ = w.cell? ⟨b', o', none⟩
  frozen : ∀ x, w'.frozen? x = w.frozen? x
  size : w'.heap.size = w.heap.size
  below : ∀ B, B ≤ b → Below B w w'
  maps : ∀ (k : Nat) (es : Array MapEntry) (c : Nat), w.heap[k]? = some (Obj.map es c) → w'.heap[k]? = some (Obj.map es c)

theorem size_setCells (b : Nat) : ∀ (vs : List Value) (o : Nat) (w : World), (w.setCells b o vs).heap.size = w.heap.size
  | [], _, _ => rfl
  | v :: r, o, w => by rw [World.setCells, size_setCells b r]; simp

theorem map_setCells (b : Nat) : ∀ (vs : List Value) (o : Nat) (w : World) {k : Nat} {ms : Array MapEntry} {c : Nat}, w.heap[k]? = some (Obj.map ms c) → (w.setCells b o vs).heap[k]? = some (Obj.map ms c)
  | [], _, _, _, _, _, h => h
  | v :: r, o, w, k, ms, c, h => by rw [World.setCells]; exact map_setCells b r (o + 1) _ (map_setCell h)

theorem below_setCells (B b : Nat) (hb : B ≤ b) : ∀ (vs : List Value) (o : Nat) (w : World), Below B w (w.setCells b o vs)
  | [], _, w => .refl _ _
  | v :: r, o, w => by
    rw [World.setCells]
    exact ((Below.refl B w).setCell (p := ⟨b, o, none⟩) hb v).trans (below_setCells B b hb r (o + 1) _)

theorem Wr.mk' {w : World} {b o : Nat} {vs : List Value} (hc : ∀ j, j < vs.length → (w.cell? ⟨b, o + j, none⟩).isSome = true) : Wr w (w.setCells b o vs) b o vs where
  inn := fun j v hv => by
    have hj := (List.getElem?_eq_some_iff.1 hv).1
    rw [World.cell?_setCells_in b vs o w hc j hj]
    rw [List.getElem?_eq_getElem hj] at hv
    exact hv
  out := fun b' o' h => World.cell?_setCells_out b vs o w ⟨b', o', none⟩ (fun h1 _ => by
    simp only at h1 ⊢
    by_cases h2 : o' < o
    · exact .inl h2
    · exact .inr (Nat.le_of_not_lt fun h3 => h ⟨h1, by omega, h3⟩))
  frozen := fun x => World.frozen?_setCells b vs o w x
  size := size_setCells b vs o w
  below := fun B hB => below_setCells B b hB vs o w
  maps := fun _ _ _ h => map_setCells b vs o w h

/-- what a store does -/
theorem run_storeVar_at {P : Program} {t : TypeId} {sz : Nat} (ht : (Go.sizeOf t).run P w = .ok sz w) {b o : Nat} {v : Value} (hl : v.cells.size = sz) (h1 : ∀ u ∈ v.cells.toList, u.oneCell' = true)
    (hc : ∀ j, j < sz → ∃ u, w.cell? ⟨b, o + j, none⟩ = some u ∧ w.frozen? ⟨b, o + j, none⟩ = false) :
    (storeVar t ⟨b, o, none⟩ v).run P w = .ok () (w.setCells b o v.cells.toList) ∧ Wr w (w.setCells b o v.cells.toList) b o v.cells.toList := by
  have hc' : ∀ j, j < v.cells.toList.length → (w.cell? ⟨b, o + j, none⟩).isSome = true := fun j hj => by
    obtain ⟨u, hu, _⟩ := hc j (by simpa [hl] using hj)
    rw [hu]; rfl
  refine ⟨?_, Wr.mk' hc'⟩
  have hst := run_storeCells_cells (P := P) b o v.cells.toList 0 w (fun j hj => by simpa using hc' j hj) (fun j hj => by
    obtain ⟨u, _, hf⟩ := hc j (by simpa [hl] using hj)
    simpa using hf) h1
  simp only [storeVar, Sem.run_bind, ht, Result.andThen_ok, hl, ne_eq, not_true_eq_false, if_false]
  simpa using hst
end
end Ey
