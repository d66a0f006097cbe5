/- New variables, new slices. -/
import Derived.Test.YtjcnpcdcpfbpdaaGreatDoorEyOp9
namespace Ey
open Go Go.RowKit

/-- what an operation does that is no call: the model's answer and ours -/
def Done (C : Cx) (g : Gh) (own : Own) (B : Nat) (H : Heap) (w : World) (a : Act) (n : Nat) (L : List Nat) (d : Option Nat) (e' : Env) (H' : Heap) (r : Result Next) : Prop :=
  ∃ g' own' w' v, (r = .ok (.value v) w' ∨ (r = .ok .skip w' ∧ v = undef)) ∧ Ext g own B H w g' own' H' w' ∧ St C g' own' B H' w' ∧ Fr C g' own' w' e' (a.put d v).tmps n L

/-- a slot that may be given a value -/
def dstOK (n : Nat) (L : List Nat) : Option Nat → Prop
  | none => True
  | some d => d < n ∧ d ∉ L

section
variable {C : Cx} {g : Gh} {own : Own} {B : Nat} {H : Heap} {w : World} {env : Env} {a : Act} {n : Nat} {L : List Nat}

theorem put_tmps (d : Option Nat) (v : Value) : (a.put d v).tmps = match d with | some d => a.tmps.setIfInBounds d v | none => a.tmps := by cases d <;> rfl

theorem Fr.put {g' : Gh} {own' : Own} {w' : World} (hF : Fr C g' own' w' env a.tmps n L) {d : Option Nat} (hd : dstOK n L d) {x : Sl} {v : Value} (hx : SlR C g' env (tmOf a.tmps) x v) (hp : x.plain = true) :
    Fr C g' own' w' (setDst d x env) (a.put d v).tmps n L := by
  cases d with
  | none => exact hF
  | some d => exact hF.set hd.1 hd.2 hx hp

theorem done_pure (hS : St C g own B H w) (hF : Fr C g own w env a.tmps n L) {d : Option Nat} (hd : dstOK n L d) {x : Sl} {v : Value} {r : Result Next} (hr : r = .ok (.value v) w) (hx : SlR C g env (tmOf a.tmps) x v) (hp : x.plain = true) :
    Done C g own B H w a n L d (setDst d x env) H r :=
  ⟨g, own, w, v, .inl hr, .refl _ _ _ _ _, hS, hF.put hd hx hp⟩

theorem cell_new (w : World) (c : Array Value) (t : TypeId) (j : Nat) : (w.alloc (.cells c t)).cell? ⟨w.heap.size, j, none⟩ = c[j]? := by simp
theorem frozen_new (w : World) (c : Array Value) (t : TypeId) (j : Nat) : (w.alloc (.cells c t)).frozen? ⟨w.heap.size, j, none⟩ = false := by simp

/-- a new local variable -/
theorem done_lv (hS : St C g own B H w) (hF : Fr C g own w env a.tmps n L) {d : Nat} (hd : d < n) (hL : d ∈ L) (hnl : ∀ cs, env.get d ≠ .lv cs) {cs : List AV} {c : Array Value} (hcs : CR C g cs c.toList) (t : TypeId) :
    Done C g own B H w a n L (some d) ((d, .lv cs) :: env) H (.ok (.value (.pointer (some ⟨w.heap.size, 0, none⟩))) (w.alloc (.cells c t))) := by
  have hN := New.alloc w (.cells c t)
  refine ⟨_, _, _, _, .inl rfl, Ext.grow hS hN (fun _ => none) (fun _ => .slot d), hS.grow hN _ _ (fun o v h => by cases h), ?_⟩
  rw [put_tmps]
  exact hF.setLv hS hN hd hL hnl hcs (fun j v hv => ⟨by rw [cell_new]; simpa using hv, frozen_new _ _ _ _⟩)

/-- a new variable that is never written: what it holds is known for good -/
theorem done_imm (hS : St C g own B H w) (hF : Fr C g own w env a.tmps n L) {d : Option Nat} (hd : dstOK n L d) {x : AV} (hne : x.cells ≠ []) {c : Array Value} (hcs : CR C g x.cells c.toList) (t : TypeId) :
    Done C g own B H w a n L d (setDst d (.v (.imm x)) env) H (.ok (.value (.pointer (some ⟨w.heap.size, 0, none⟩))) (w.alloc (.cells c t))) := by
  have hN := New.alloc w (.cells c t)
  have hle := Gh.le_grow hS fun j => c[j]?
  refine ⟨_, _, _, _, .inl rfl, Ext.grow hS hN (fun j => c[j]?) (fun _ => .imm), hS.grow hN _ _ (fun o v h => ⟨rfl, by rw [cell_new]; exact h⟩), ?_⟩
  refine (hF.grow hS hN _ _).put hd (x := .v (.imm x)) ?_ rfl
  have hlen := hcs.len
  refine .imm x w.heap.size 0 (fun j => c.getD j undef) hcs.one hne (fun j hj => ?_) (fun j y hy => ?_)
  · have : j < c.size := by simp at hlen; omega
    simp [Gh.grow, this]
  · have hj := (List.getElem?_eq_some_iff.1 hy).1
    have hj' : j < c.size := by simp at hlen; omega
    have := hcs.rel j y (c.getD j undef) hy (by simp [hj'])
    exact this.mono hle

/-- a new slice that is never written -/
theorem done_list (hS : St C g own B H w) (hF : Fr C g own w env a.tmps n L) {d : Option Nat} (hd : dstOK n L d) {xs : List AV} {sz : Nat} (h0 : 0 < sz) (hsz : ∀ x ∈ xs, x.cells.length = sz) {c : Array Value} (hcs : CR C g (flat xs) c.toList) (t : TypeId) :
    Done C g own B H w a n L d (setDst d (.v (.list false xs)) env) H (.ok (.value (.slice (some ⟨w.heap.size, 0, none⟩) xs.length xs.length)) (w.alloc (.cells c t))) := by
  have hN := New.alloc w (.cells c t)
  have hle := Gh.le_grow hS fun j => c[j]?
  refine ⟨_, _, _, _, .inl rfl, Ext.grow hS hN (fun j => c[j]?) (fun _ => .imm), hS.grow hN _ _ (fun o v h => ⟨rfl, by rw [cell_new]; exact h⟩), ?_⟩
  refine (hF.grow hS hN _ _).put hd (x := .v (.list false xs)) ?_ rfl
  have hlen := hcs.len
  rw [flat_len hsz] at hlen
  have hin : ∀ i j, i < xs.length → j < sz → i * sz + j < c.size := fun i j hi hj => by
    have := idx_lt hi (Nat.le_refl _) hj
    simp at hlen; omega
  refine .list xs w.heap.size 0 xs.length sz (fun i j => c.getD (i * sz + j) undef) (Nat.le_refl _) (fun i x hx => ⟨hsz x (List.mem_of_getElem? hx), fun e he => ?_⟩) (fun i x hx e => by have := hsz x (List.mem_of_getElem? hx); rw [e] at this; simp at this; omega) (fun i j hi hj => ?_) (fun i j x y hx hy => ?_)
  · exact hcs.one e (List.mem_flatMap.2 ⟨x, List.mem_of_getElem? hx, he⟩)
  · have := hin i j hi hj
    simp [Gh.grow, this]
  · have hi := (List.getElem?_eq_some_iff.1 hx).1
    have hj : j < sz := by
      have := (List.getElem?_eq_some_iff.1 hy).1
      have := hsz x (List.mem_of_getElem? hx)
      omega
    have h1 := hin i j hi hj
    have h2 := flat_get hsz hx hj
    exact (hcs.rel (i * sz + j) y (c.getD (i * sz + j) undef) (by rw [h2]; exact hy) (by simp [h1])).mono hle

/-- a new variable on the heap -/
theorem done_obj (hS : St C g own B H w) (hF : Fr C g own w env a.tmps n L) {d : Option Nat} (hd : dstOK n L d) {cs : List AV} {c : Array Value} (hcs : CR C g cs c.toList) (t : TypeId) :
    Done C g own B H w a n L d (setDst d (.v (.ptr H.next 0)) env) (H.new (.obj cs)) (.ok (.value (.pointer (some ⟨w.heap.size, 0, none⟩))) (w.alloc (.cells c t))) := by
  have hN := New.alloc w (.cells c t)
  obtain ⟨hn1, hn2, hn3⟩ := hS.next H.next (Nat.le_refl _)
  let g' : Gh := { g with ob := fun id => if id = H.next then some (w.heap.size, 0) else g.ob id }
  have hle : g.Le g' := ⟨fun _ _ _ h => h, fun id p h => by
    by_cases e : id = H.next
    · subst e; rw [hn2] at h; cases h
    · simp only [g', if_neg e]; exact h, fun _ _ _ h => h⟩
  have hchg : Chg C g own B H w g' (growOwn own w.heap.size fun _ => .heap H.next) (H.new (.obj cs)) (w.alloc (.cells c t)) H.next := by
    refine ⟨hle, fun b o h1 h2 => ?_, fun b es c h1 h2 hm => by rw [hN.old b (hS.lt h1)]; exact hm, fun b o v h => ?_, fun id e => by simp [g', e], fun h => by omega, fun _ _ _ => rfl, fun id e => by simp [Heap.new, e], fun bl hb => ?_, rfl, by simp [Heap.new], by simp [Heap.new], hS.ro, fun b o => ?_, fun b o => ?_, hN.below hS.size⟩
    · have hlt := hS.lt h1
      exact ⟨growOwn_old hS _ h1, hN.cell hlt, hN.frozen hlt⟩
    · obtain ⟨k1, k2⟩ := hS.imm b o v h
      have hne : own b o ≠ .free := by rw [k1]; simp
      exact ⟨by rw [growOwn_old hS _ hne]; exact k1, by rw [hN.cell (hS.lt hne)]; exact k2⟩
    · simp only [Heap.new, if_true, Option.some.injEq] at hb
      subst hb
      refine ⟨w.heap.size, 0, by simp [g'], hcs.one, fun j y hy => ?_⟩
      have hj := (List.getElem?_eq_some_iff.1 hy).1
      have hj' : j < c.size := by have := hcs.len; simp at this; omega
      refine ⟨by simp [growOwn], c[j], by rw [Nat.zero_add, cell_new]; simp [hj'], by rw [frozen_new], ?_⟩
      exact (hcs.rel j y c[j] hy (by simp [hj'])).mono hle
    · simp only [growOwn]
      by_cases hb : b = w.heap.size
      · exact .inr (by have := hN.size; omega)
      · rw [if_neg hb]
        rcases hS.ext b o with h | h
        · exact .inl h
        · exact .inr (by have := hN.size; omega)
    · simp only [growOwn]
      by_cases hb : b = w.heap.size
      · intro _; have := hS.size; omega
      · rw [if_neg hb]; exact hS.base b o
  refine ⟨_, _, _, _, .inl rfl, hchg.toExt, hchg.st hS, (hchg.fr hF).put hd (x := .v (.ptr H.next 0)) ?_ rfl⟩
  exact VR.ptr (C := C) (g := g') H.next 0 w.heap.size 0 (by simp [g'])

/-- a new array that may be written, of capacity cap -/
theorem done_arr (hS : St C g own B H w) {w1 : World} (hN : New w w1) {c : Array Value} (hcell : ∀ j, w1.cell? ⟨w.heap.size, j, none⟩ = c[j]?) (hfr : ∀ j, w1.frozen? ⟨w.heap.size, j, none⟩ = false)
    {xs : List AV} {sz cap : Nat} (h0 : 0 < sz) (hsz : ∀ x ∈ xs, x.cells.length = sz) (hcap : xs.length ≤ cap) (hcs : CR C g (flat xs) (c.toList.take (xs.length * sz))) (hc : c.size = cap * sz) :
    ∃ g', Chg C g own B H w g' (growOwn own w.heap.size fun _ => .heap H.next) (H.new (.arr false sz xs)) w1 H.next ∧
      VR C g' (.ms H.next xs.length 0 xs.length) (.slice (some ⟨w.heap.size, 0, none⟩) xs.length cap) := by
  obtain ⟨hn1, hn2, hn3⟩ := hS.next H.next (Nat.le_refl _)
  let ph : Ph := ⟨some (w.heap.size, 0), cap, sz⟩
  let g' : Gh := { g with ar := fun id v => if id = H.next then (if v = xs.length then some ph else none) else g.ar id v }
  have hle : g.Le g' := ⟨fun _ _ _ h => h, fun _ _ h => h, fun id v p h => by
    by_cases e : id = H.next
    · subst e; rw [hn3] at h; cases h
    · simp only [g', if_neg e]; exact h⟩
  refine ⟨g', ?_, ?_⟩
  · refine ⟨hle, fun b o h1 h2 => ?_, fun b es c h1 h2 hm => by rw [hN.old b (hS.lt h1)]; exact hm, fun b o v h => ?_, fun _ _ => rfl, fun _ => rfl, fun id e v => by simp [g', e], fun id e => by simp [Heap.new, e], fun bl hb => ?_, rfl, by simp [Heap.new], by simp [Heap.new], hS.ro, fun b o => ?_, fun b o => ?_, hN.below hS.size⟩
    · have hlt := hS.lt h1
      exact ⟨growOwn_old hS _ h1, hN.cell hlt, hN.frozen hlt⟩
    · obtain ⟨k1, k2⟩ := hS.imm b o v h
      have hne : own b o ≠ .free := by rw [k1]; simp
      exact ⟨by rw [growOwn_old hS _ hne]; exact k1, by rw [hN.cell (hS.lt hne)]; exact k2⟩
    · simp only [Heap.new, if_true, Option.some.injEq] at hb
      subst hb
      refine ⟨⟨ph, by simp [g'], rfl, ⟨rfl, h0⟩, hcap, fun i x hx => ⟨hsz x (List.mem_of_getElem? hx), fun e he => hcs.one e (List.mem_flatMap.2 ⟨x, List.mem_of_getElem? hx, he⟩)⟩, fun k hk => ?_, fun i x j y hx hy => ?_⟩, fun v p h => ?_⟩
      · have hk' : k < c.size := by rw [hc]; exact hk
        exact ⟨by simp [growOwn], c[k], by rw [Nat.zero_add, hcell]; simp [hk'], hfr _, trivial⟩
      · have hi := (List.getElem?_eq_some_iff.1 hx).1
        have hj : j < sz := by
          have := (List.getElem?_eq_some_iff.1 hy).1
          have := hsz x (List.mem_of_getElem? hx)
          omega
        have hk := idx_lt hi hcap hj
        have hk' : i * sz + j < c.size := by rw [hc]; exact hk
        have hk2 := idx_lt hi (Nat.le_refl _) hj
        refine ⟨c[i * sz + j], by rw [Nat.zero_add, hcell]; simp [hk'], ?_⟩
        exact (hcs.rel (i * sz + j) y _ (by rw [flat_get hsz hx hj]; exact hy) (by rw [List.getElem?_take, if_pos hk2]; simp [hk'])).mono hle
      · simp only [g', if_true] at h
        split at h
        · rename_i hv; simp at h; subst h; exact ⟨rfl, by omega⟩
        · cases h
    · simp only [growOwn]
      by_cases hb : b = w.heap.size
      · exact .inr (by have := hN.size; omega)
      · rw [if_neg hb]
        rcases hS.ext b o with h | h
        · exact .inl h
        · exact .inr (by have := hN.size; omega)
    · simp only [growOwn]
      by_cases hb : b = w.heap.size
      · intro _; have := hS.size; omega
      · rw [if_neg hb]; exact hS.base b o
  · have := VR.ms (C := C) (g := g') H.next xs.length 0 xs.length w.heap.size 0 cap sz ⟨w.heap.size, 0, none⟩ (by simp [g', ph]) (by omega) ⟨rfl, .inr (by simp)⟩
    simpa using this
end
end Ey
