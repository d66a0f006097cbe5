/- append. -/
import Derived.Test.YtjcnpcdcpfbpdaaGreatDoorEyOp12
namespace Ey
open Go Go.RowKit

section
variable {C : Cx} {g : Gh} {own : Own} {B : Nat} {H : Heap} {w : World} {env : Env} {a : Act} {n : Nat} {L : List Nat}

theorem gather_cells {w : World} {b o m : Nat} {p : Nat → Value → Prop} (h : ∀ k, k < m → ∃ v, w.cell? ⟨b, o + k, none⟩ = some v ∧ p k v) :
    ∃ vs : List Value, vs.length = m ∧ (∀ k v, vs[k]? = some v → w.cell? ⟨b, o + k, none⟩ = some v ∧ p k v) := gather m h

theorem flat_bytes : ∀ s : List UInt8, flat (s.map fun b => AV.int .u8 b.toNat) = s.map fun b => AV.int .u8 b.toNat
  | [] => rfl
  | b :: s => by
    have := flat_bytes s
    simp only [flat, List.map_cons, List.flatMap_cons, AV.cells] at this ⊢
    rw [this]; rfl

/-- what is appended, as the model reads it -/
theorem elems_run (hS : St C g own B H w) {sz : Nat} (h0 : 0 < sz) {x : AV} {v : Value} (hx : VR C g x v) {ys : List AV} (hy : elemsOf H sz x = some ys) :
    (Builtin.lenOf v).run C.P w = .ok ys.length w ∧ (∀ y ∈ ys, y.cells.length = sz) ∧ ∃ news : List Value, CR C g (flat ys) news ∧
      ∀ w1 : World, (∀ q, w1.cell? q = w.cell? q) → (Builtin.firstCells sz ys.length v).run C.P w1 = .ok news.toArray w1 := by
  have fromCells : ∀ (b o : Nat) (zs : List AV) (len cap : Nat), (∀ y ∈ zs, y.cells.length = sz ∧ ∀ c ∈ y.cells, c.one = true) →
      (∀ (i : Nat) (y : AV) (j : Nat) (c : AV), zs[i]? = some y → y.cells[j]? = some c → ∃ u, w.cell? ⟨b, o + i * sz + j, none⟩ = some u ∧ VR C g c u) →
      ∃ news : List Value, CR C g (flat zs) news ∧ ∀ w1 : World, (∀ q, w1.cell? q = w.cell? q) → (Builtin.firstCells sz zs.length (.slice (some ⟨b, o, none⟩) len cap)).run C.P w1 = .ok news.toArray w1 := by
    intro b o zs len cap h1 h2
    have hsz : ∀ y ∈ zs, y.cells.length = sz := fun y hy => (h1 y hy).1
    have hone : ∀ c ∈ flat zs, c.one = true := fun c hc => by
      obtain ⟨y, hy, hc⟩ := List.mem_flatMap.1 hc
      exact (h1 y hy).2 c hc
    obtain ⟨vs, hl, hv⟩ := gather_cells (w := w) (b := b) (o := o) (m := zs.length * sz) (p := fun k u => ∀ c, (flat zs)[k]? = some c → VR C g c u) (fun k hk => by
      have hdiv : k / sz < zs.length := (Nat.div_lt_iff_lt_mul h0).2 hk
      have hmod := Nat.mod_lt k h0
      have hkk : k / sz * sz + k % sz = k := by rw [Nat.mul_comm]; exact Nat.div_add_mod k sz
      have hg := List.getElem?_eq_getElem hdiv
      have hj : k % sz < (zs[k / sz]).cells.length := by rw [hsz _ (List.getElem_mem hdiv)]; exact hmod
      obtain ⟨u, h3, h4⟩ := h2 _ _ _ _ hg (List.getElem?_eq_getElem hj)
      rw [Nat.add_assoc, hkk] at h3
      refine ⟨u, h3, fun c hc => ?_⟩
      have := flat_get hsz hg hmod
      rw [hkk, hc, List.getElem?_eq_getElem hj] at this
      simp at this
      exact this ▸ h4)
    refine ⟨vs, ⟨by rw [flat_len hsz, hl], hone, fun k c u hc hu => (hv k u hu).2 c hc⟩, fun w1 hw1 => ?_⟩
    refine run_firstCells_some w1 sz zs.length ⟨b, o, none⟩ len cap vs hl (fun j u hu => ?_)
    rw [add_at, hw1]
    exact (hv j u hu).1
  unfold elemsOf at hy
  split at hy
  · rename_i nl xs
    split at hy
    · rename_i hall
      simp at hy; subst hy
      cases hx with
      | nil => exact ⟨rfl, fun y hy => by simp at hy, [], ⟨rfl, fun c hc => by simp [flat] at hc, fun i x y hx => by simp [flat] at hx⟩, fun w1 _ => by simp [run_firstCells_none]⟩
      | list _ b o cap sz' f hc hs hne hG hv =>
        have hsz : ∀ y ∈ xs, y.cells.length = sz := fun y hy => by simpa using List.all_eq_true.1 hall y hy
        refine ⟨rfl, hsz, fromCells b o xs _ _ (fun y hy => ?_) (fun i y j c hi hj => ?_)⟩
        · obtain ⟨i, hi, rfl⟩ := List.mem_iff_getElem.1 hy
          exact ⟨hsz _ hy, (hs i _ (List.getElem?_eq_getElem hi)).2⟩
        · have h1 := (hs i y hi).1
          have h2 := hsz y (List.mem_of_getElem? hi)
          have hjl := (List.getElem?_eq_some_iff.1 hj).1
          have : sz' = sz := by omega
          subst this
          exact ⟨f i j, (hS.imm _ _ _ (hG i j (List.getElem?_eq_some_iff.1 hi).1 (by omega))).2, hv i j y c hi hj⟩
    · simp at hy
  · simp at hy; subst hy
    cases hx with
    | cap0 ad _ =>
      refine ⟨rfl, fun y hy => by simp at hy, [], ⟨rfl, fun c hc => by simp [flat] at hc, fun i x y hx => by simp [flat] at hx⟩, fun w1 _ => ?_⟩
      simp [Builtin.firstCells, loadCells, loadCellsFrom]
  · rename_i s
    split at hy
    · rename_i h1
      simp at hy; subst hy
      obtain ⟨bs, rfl, hs⟩ := str_inv hx
      subst h1
      have hl : s.length = bs.size := by rw [← hs]; exact Array.length_toList
      refine ⟨by simp [Builtin.lenOf, hl], fun y hy => ?_, (s.map fun b => Value.int .u8 b.toNat), ⟨?_, fun c hc => ?_, fun i x y hx hy => ?_⟩, fun w1 _ => ?_⟩
      · obtain ⟨b, _, rfl⟩ := List.mem_map.1 hy; rfl
      · rw [flat_bytes]; simp
      · obtain ⟨y, hy, hc⟩ := List.mem_flatMap.1 hc
        obtain ⟨b, _, rfl⟩ := List.mem_map.1 hy
        simp [AV.cells] at hc
        subst hc; rfl
      · rw [flat_bytes] at hx
        simp only [List.getElem?_map, Option.map_eq_some_iff] at hx hy
        obtain ⟨b1, e1, rfl⟩ := hx
        obtain ⟨b2, e2, rfl⟩ := hy
        rw [e1] at e2
        simp at e2
        subst e2
        exact .int _ _
      · simp only [Builtin.firstCells, Sem.run_pure, List.length_map, hl]
        congr 1
        apply Array.ext'
        simp [← hs]
    · simp at hy
  · rename_i id ver lo len
    split at hy
    · rename_i nl z xs hg
      split at hy
      · rename_i hh
        obtain ⟨rfl, hver, hle⟩ := hh
        simp at hy; subst hy
        obtain ⟨⟨ph, h1, h2, h3⟩, h4⟩ := hS.arr _ _ _ _ hg
        rw [hver] at h1
        have hlen : ((xs.drop lo).take len).length = len := by simp; omega
        cases hx with
        | msNil _ sz' hh' =>
          simp
          refine ⟨rfl, [], ⟨rfl, fun c hc => by simp [flat] at hc, fun i x y hx => by simp [flat] at hx⟩, fun w1 _ => by simp [run_firstCells_none]⟩
        | ms _ _ _ _ b o cap sz' ad hh' hlc ha =>
          rw [hh'] at h1; simp at h1; subst h1
          simp only at h2 h3
          subst h2
          obtain ⟨k1, k2, k3, k4, k5⟩ := h3
          have hget : ∀ (i : Nat) (x : AV), ((xs.drop lo).take len)[i]? = some x → xs[lo + i]? = some x := by
            intro i x hx
            have hi : i < len := by
              have := (List.getElem?_eq_some_iff.1 hx).1
              omega
            rwa [List.getElem?_take, if_pos hi, List.getElem?_drop] at hx
          have hmem : ∀ y ∈ (xs.drop lo).take len, y.cells.length = sz' ∧ ∀ c ∈ y.cells, c.one = true := fun y hy => by
            obtain ⟨i, hi, rfl⟩ := List.mem_iff_getElem.1 hy
            exact k3 _ _ (hget i _ (List.getElem?_eq_getElem hi))
          refine ⟨by rw [hlen]; rfl, fun y hy => (hmem y hy).1, ?_⟩
          by_cases hz : len = 0
          · subst hz
            simp only [List.take_zero, List.length_nil]
            refine ⟨[], ⟨rfl, fun c hc => by simp [flat] at hc, fun i x y hx => by simp [flat] at hx⟩, fun w1 _ => ?_⟩
            simp [Builtin.firstCells, loadCells, loadCellsFrom]
          · have had : ad = ⟨b, o + lo * sz', none⟩ := ha.2.resolve_left (by omega)
            subst had
            have := fromCells b (o + lo * sz') ((xs.drop lo).take len) len (cap - lo) hmem (fun i y j c hi hj => by
              obtain ⟨u, p1, p2⟩ := k5 (lo + i) y j c (hget i y hi) hj
              exact ⟨u, by rw [show o + lo * sz' + i * sz' + j = o + (lo + i) * sz' + j by rw [Nat.add_mul]; omega]; exact p1, p2⟩)
            simpa [hlen] using this
      · simp at hy
    · simp at hy
  · simp at hy

def SrcTy (d : TypeDesc) : Prop := (∃ e, d = .slice e) ∨ d = .string

/-- a type that appends take: its elements' size, their bytes not too many, a second operand that is no number -/
def appOK (P : Program) (t tx : TypeId) (sz : Nat) : Bool :=
  match P.underlying t, P.underlying tx with
  | some (.slice e), some d => (match P.info? e with
      | some i => i.size == sz && decide (0 < sz) && decide (i.bytes ≤ 65536) && (match i.zero with | some z => z.cells.size == sz | none => false)
      | none => false) && (match d with | .slice _ => true | .string => true | _ => false)
  | _, _ => false

theorem appOK_is {P : Program} {t tx : TypeId} {sz : Nat} (h : appOK P t tx sz = true) : ∃ e d i z, P.underlying t = some (.slice e) ∧ P.underlying tx = some d ∧ SrcTy d ∧ P.info? e = some i ∧ i.size = sz ∧ 0 < sz ∧ i.bytes ≤ 65536 ∧
    i.zero = some z ∧ z.cells.size = sz := by
  unfold appOK at h
  split at h
  · rename_i e d hu hx
    simp only [Bool.and_eq_true] at h
    obtain ⟨h1, h2⟩ := h
    split at h1
    · rename_i i hi
      simp only [Bool.and_eq_true, beq_iff_eq, decide_eq_true_eq] at h1
      obtain ⟨⟨⟨h3, h4⟩, h5⟩, h6⟩ := h1
      split at h6
      · rename_i z hz
        exact ⟨e, d, i, z, hu, hx, by cases d <;> simp at h2 <;> simp [SrcTy], hi, h3, h4, h5, hz, by simpa using h6⟩
      · simp at h6
    · simp at h1
  · simp at h

/-- room enough -/
theorem run_app_room {t tx ty e : TypeId} {d : TypeDesc} {i : TypeInfo} {sz : Nat} (hu : C.P.underlying t = some (.slice e)) (hx : C.P.underlying tx = some d) (hd : SrcTy d) (hi : C.P.info? e = some i) (hsz : i.size = sz)
    {v : Value} {m : Nat} (hm : (Builtin.lenOf v).run C.P w = .ok m w) {news : List Value} (hf : (Builtin.firstCells sz m v).run C.P w = .ok news.toArray w) {b o sLen sCap : Nat} (hroom : sLen + m ≤ sCap)
    (hc : ∀ k, k < news.length → (w.cell? ⟨b, o + sLen * sz + k, none⟩).isSome = true) (hfr : ∀ k, k < news.length → w.frozen? ⟨b, o + sLen * sz + k, none⟩ = false) (h1 : ∀ u ∈ news, u.oneCell' = true) :
    (Builtin.append_ #[t, tx] ty #[.slice (some ⟨b, o, none⟩) sLen sCap, v]).run C.P w = .ok (.slice (some ⟨b, o, none⟩) (sLen + m) sCap) (w.setCells b (o + sLen * sz) news) := by
  have hst := run_storeCells_cells (P := C.P) b (o + sLen * sz) news 0 w (by simpa using hc) (by simpa using hfr) h1
  subst hsz
  simp only [Nat.add_zero] at hst
  rcases hd with ⟨e', rfl⟩ | rfl <;>
    simp [Builtin.append_, run_underlying hu, run_underlying hx, Go.sizeOf, typeInfo, hi, hm, hroom, hf, add_at, hst]
end
end Ey
