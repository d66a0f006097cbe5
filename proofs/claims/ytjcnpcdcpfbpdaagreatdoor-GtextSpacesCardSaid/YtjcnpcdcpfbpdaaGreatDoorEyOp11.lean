/- Slices out of parts; stores. -/
import Derived.Test.YtjcnpcdcpfbpdaaGreatDoorEyOp10
import Derived.Laws.MakeOwn
namespace Ey
open Go Go.RowKit

section
variable {C : Cx} {g : Gh} {own : Own} {B : Nat} {H : Heap} {w : World} {env : Env} {a : Act} {n : Nat} {L : List Nat}

inductive PartsM (C : Cx) (g : Gh) : List (Nat × Value) → List (Nat × AV) → Prop
  | nil : PartsM C g [] []
  | cons (i : Nat) (v : Value) (x : AV) (vs xs) (hr : VR C g x v) (h : PartsM C g vs xs) : PartsM C g ((i, v) :: vs) ((i, x) :: xs)

def partsMOK (C : Cx) : List (Nat × Operand) → List (Nat × Opd) → Bool
  | [], [] => true
  | (i, x) :: xs, (j, y) :: ys => i == j && opdOK C x y && partsMOK C xs ys
  | _, _ => false

theorem partsM_rel (hF : Fr C g own w env a.tmps n L) : ∀ {xs : List (Nat × Operand)} {ys : List (Nat × Opd)}, partsMOK C xs ys = true → ∀ {qs : List (Nat × AV)}, allParts env ys = some qs →
    PartsM C g (xs.map fun (i, x) => (i, a.eval x)) qs
  | [], [], _, qs, hq => by simp [allParts] at hq; subst hq; exact .nil
  | [], (_, _) :: _, h, _, _ => by simp [partsMOK] at h
  | (_, _) :: _, [], h, _, _ => by simp [partsMOK] at h
  | (i, x) :: xs, (j, y) :: ys, h, qs, hq => by
    simp only [partsMOK, Bool.and_eq_true, beq_iff_eq] at h
    obtain ⟨⟨rfl, h1⟩, h2⟩ := h
    simp only [allParts] at hq
    split at hq
    · simp at hq
    · rename_i v hv
      simp only [Option.map_eq_some_iff] at hq
      obtain ⟨us, hu, rfl⟩ := hq
      exact .cons i _ v _ _ (av_rel hF h1 hv) (partsM_rel hF h2 hu)

theorem mkl_fill {sz : Nat} (h0 : 0 < sz) {ps : List (Nat × Value)} {qs : List (Nat × AV)} (h : PartsM C g ps qs) :
    ∀ {xs ys : List AV} {ws : Array Value}, (∀ x ∈ xs, x.cells.length = sz) → CR C g (flat xs) ws.toList → mklAV xs qs = some ys →
      (∀ x ∈ ys, x.cells.length = sz) ∧ ys.length = xs.length ∧ ∃ rs, Instr.fill (fun i => some (i * sz, sz)) ws ps = some rs ∧ CR C g (flat ys) rs.toList := by
  induction h with
  | nil => intro xs ys ws hx hc hf; simp [mklAV] at hf; subst hf; exact ⟨hx, rfl, ws, rfl, hc⟩
  | cons i v x vs qs' hr _ ih =>
    intro xs ys ws hx hc hf
    simp only [mklAV] at hf
    split at hf
    · rename_i o ho
      split at hf
      · rename_i hl
        have hi := (List.getElem?_eq_some_iff.1 ho).1
        have hos := hx o (List.mem_of_getElem? ho)
        have hxs : x.cells.length = sz := by omega
        have hk := VR.cells hr (.inl (by intro e; rw [e] at hxs; simp at hxs; omega))
        have hlk := hk.len
        have hlen := hc.len
        have hset : ∀ y ∈ xs.set i x, y.cells.length = sz := fun y hy => by
          rcases List.mem_or_eq_of_mem_set hy with h | h
          · exact hx y h
          · exact h ▸ hxs
        have hfl := flat_len hx
        have hbound : i * sz + sz ≤ xs.length * sz := by
          have : (i + 1) * sz ≤ xs.length * sz := Nat.mul_le_mul_right _ (by omega)
          rw [Nat.add_mul] at this
          omega
        have hput := hc.put hk (i * sz) (by omega)
        rw [← flat_set hx hi hxs] at hput
        have hvs : v.cells.size = sz := by simp at hlk; omega
        have hfold : (v.cells.zipIdx.foldl (fun cs (c, j) => cs.setIfInBounds (i * sz + j) c) ws).toList = ws.toList.take (i * sz) ++ v.cells.toList ++ ws.toList.drop (i * sz + v.cells.toList.length) := by
          rw [← Array.foldl_toList, Array.toList_zipIdx]
          have := foldl_put (i * sz) v.cells.toList 0 ws (by simp at hlen ⊢; omega)
          simpa using this
        rw [← hfold] at hput
        obtain ⟨h1, h2, rs, h3, h4⟩ := ih hset hput hf
        refine ⟨h1, by simpa using h2, rs, ?_, h4⟩
        have hn : ¬ (v.cells.size ≠ sz ∨ i * sz + v.cells.size > ws.size) := by simp at hlen; omega
        simp only [Instr.fill]
        rw [if_neg (by simpa using hn)]
        exact h3
      · simp at hf
    · simp at hf

/-- a row of zero values -/
theorem zero_row {z : AV} {c : Array Value} (hz : CR C g z.cells c.toList) (h0 : 0 < c.size) (m : Nat) :
    CR C g (flat (List.replicate m z)) ((Array.range (m * c.size)).map (c[· % c.size]!)).toList := by
  have hl : z.cells.length = c.size := by simpa using hz.len
  have hsz : ∀ x ∈ List.replicate m z, x.cells.length = c.size := fun x hx => by rw [(List.mem_replicate.1 hx).2]; exact hl
  refine ⟨by rw [flat_len hsz]; simp, fun e he => ?_, fun k x y hx hy => ?_⟩
  · obtain ⟨x, hx, he⟩ := List.mem_flatMap.1 he
    rw [(List.mem_replicate.1 hx).2] at he
    exact hz.one e he
  · have hk : k < m * c.size := by
      have := (List.getElem?_eq_some_iff.1 hx).1
      rw [flat_len hsz] at this
      simpa using this
    have hmod := Nat.mod_lt k h0
    have hdiv : k / c.size < m := (Nat.div_lt_iff_lt_mul h0).2 hk
    have hkk : k = k / c.size * c.size + k % c.size := by rw [Nat.mul_comm]; exact (Nat.div_add_mod k c.size).symm
    have h1 : (List.replicate m z)[k / c.size]? = some z := by rw [List.getElem?_replicate, if_pos hdiv]
    have h2 := flat_get hsz h1 hmod
    rw [← hkk, hx] at h2
    have hy' : y = c[k % c.size] := by
      simp [hk, hmod] at hy
      exact hy.symm
    exact hz.rel _ _ _ h2.symm (by rw [hy']; simp [hmod])

/-- a type's size and its zero value -/
def zeroTy (P : Program) (t : TypeId) (sz : Nat) (z : AV) : Bool :=
  match P.info? t with
  | some i => i.size == sz && decide (0 < sz) && decide (z.cells.length = sz) && (match i.zero with | some v => cv v z | none => false)
  | none => false

theorem zeroTy_is {t : TypeId} {sz : Nat} {z : AV} (h : zeroTy C.P t sz z = true) (g : Gh) : ∃ i v, C.P.info? t = some i ∧ i.size = sz ∧ 0 < sz ∧ z.cells.length = sz ∧ i.zero = some v ∧ VR C g z v := by
  unfold zeroTy at h
  split at h
  · rename_i i hi
    simp only [Bool.and_eq_true, beq_iff_eq, decide_eq_true_eq] at h
    obtain ⟨⟨⟨h1, h2⟩, h3⟩, h4⟩ := h
    split at h4
    · rename_i v hv
      exact ⟨i, v, hi, h1, h2, h3, hv, cv_rel h4⟩
    · simp at h4
  · simp at h

theorem mkl_done (hS : St C g own B H w) (hF : Fr C g own w env a.tmps n L) {d : Option Nat} (hd : dstOK n L d) {t e : TypeId} (ht : C.P.underlying t = some (.slice e)) {sz m : Nat} {z : AV} (hz : zeroTy C.P e sz z = true) (hm : m * sz ≤ 2 ^ 24)
    {xs : List (Nat × Operand)} {ys : List (Nat × Opd)} (hp : partsMOK C xs ys = true) {qs : List (Nat × AV)} (hq : allParts env ys = some qs) {rs : List AV} (hr : mklAV (List.replicate m z) qs = some rs) :
    ∃ r, (do pure (Next.value (← Instr.buildSlice t m (xs.toArray.map fun (i, x) => (i, a.eval x)))) : Sem Next).run C.P w = r ∧ Done C g own B H w a n L d (setDst d (.v (.list false rs)) env) H r := by
  obtain ⟨i, v, hi, hsz, h0, hzl, hiz, hv⟩ := zeroTy_is hz g
  have hcz := VR.cells hv (.inl (by intro e; rw [e] at hzl; simp at hzl; omega))
  have hcs : v.cells.size = sz := by have := hcz.len; simp at this; omega
  have hrow := zero_row hcz (by omega) m
  rw [hcs] at hrow
  obtain ⟨h1, h2, cs, h3, h4⟩ := mkl_fill h0 (partsM_rel hF hp hq) (fun x hx => by rw [(List.mem_replicate.1 hx).2]; exact hzl) hrow hr
  have h2' : rs.length = m := by simpa using h2
  refine ⟨_, rfl, ?_⟩
  have hrun : (Instr.buildSlice t m (xs.toArray.map fun (i, x) => (i, a.eval x))).run C.P w = .ok (.slice (some ⟨w.heap.size, 0, none⟩) m m) (w.alloc (.cells cs e)) := by
    have hpl : (xs.toArray.map fun (i, x) => (i, a.eval x)).toList = xs.map fun (i, x) => (i, a.eval x) := by simp
    generalize (xs.toArray.map fun (i, x) => (i, a.eval x)) = pa at hpl
    have hlim : ¬ (16777216 < m * sz) := by omega
    by_cases hm0 : m * sz = 0
    · have hrz : ∀ f : Nat → Value, (Array.range (m * sz)).map f = #[] := fun f => by rw [hm0]; simp [Array.range_zero']
      rw [hrz] at h3
      simp only [Instr.buildSlice, Sem.run_bind, run_underlying ht, Go.sizeOf, typeInfo, run_program, Result.andThen_ok, hi, Sem.run_pure, hsz]
      simp [hm0, hpl, Array.range_zero', h3, newRow]
    · simp only [Instr.buildSlice, Sem.run_bind, run_underlying ht, Go.sizeOf, typeInfo, run_program, Result.andThen_ok, hi, Sem.run_pure, hsz]
      simp [hlim, hm0, hpl, zeroValue, typeInfo, hi, hiz, newRow]
      rw [hcs]
      have h3' : Instr.fill (fun i => some (i * sz, sz)) (Array.map (fun x => v.cells[x % sz]!) (Array.range (m * sz))) (List.map (fun x => (x.fst, a.eval x.snd)) xs) = some cs := h3
      rw [h3']
      simp
  simp only [Sem.run_bind, hrun, Result.andThen_ok]
  have := done_list hS hF hd h0 h1 h4 e
  rw [h2'] at this
  exact this

theorem putAt_get {cs new : List AV} {off : Nat} (h : off + new.length ≤ cs.length) (j : Nat) : (putAt cs off new)[j]? = if off ≤ j ∧ j < off + new.length then new[j - off]? else cs[j]? := by
  unfold putAt
  by_cases h1 : j < off
  · rw [if_neg (by omega), List.append_assoc, List.getElem?_append_left (by simp; omega), List.getElem?_take, if_pos h1]
  · rw [List.append_assoc, List.getElem?_append_right (by simp; omega)]
    simp only [List.length_take]
    rw [Nat.min_eq_left (by omega)]
    by_cases h2 : j - off < new.length
    · rw [if_pos ⟨by omega, by omega⟩, List.getElem?_append_left h2]
    · rw [if_neg (by omega), List.getElem?_append_right (by omega), List.getElem?_drop]
      congr 1
      omega

theorem putAt_mem {cs new : List AV} {off : Nat} {c : AV} (h : c ∈ putAt cs off new) : c ∈ cs ∨ c ∈ new := by
  simp only [putAt, List.mem_append] at h
  rcases h with (h | h) | h
  · exact .inl (List.mem_of_mem_take h)
  · exact .inr h
  · exact .inl (List.mem_of_mem_drop h)

/-- cells of one owner, partly written -/
theorem cells_wr {w' : World} {ow : Owner} {b o off : Nat} {cs new : List AV} {vs : List Value} (hc : CellsAt C g own w ow b o cs) (hle : off + new.length ≤ cs.length) (hn : CR C g new vs) (hW : Wr w w' b (o + off) vs) :
    CellsAt C g own w' ow b o (putAt cs off new) := by
  have hlen := hn.len
  refine ⟨fun c h => (putAt_mem h).elim (hc.1 c) (hn.one c), fun j y hy => ?_⟩
  rw [putAt_get hle] at hy
  split at hy
  · rename_i h1
    have hlt : j < cs.length := by omega
    obtain ⟨k1, v, k2, k3, k4⟩ := hc.2 j _ (List.getElem?_eq_getElem hlt)
    have hjv : j - off < vs.length := by omega
    have hin := hW.inn (j - off) _ (List.getElem?_eq_getElem hjv)
    rw [show o + off + (j - off) = o + j by omega] at hin
    exact ⟨k1, _, hin, by rw [hW.frozen]; exact k3, hn.rel _ y _ hy (List.getElem?_eq_getElem hjv)⟩
  · rename_i h1
    obtain ⟨k1, v, k2, k3, k4⟩ := hc.2 j y hy
    exact ⟨k1, v, by rw [hW.out b (o + j) (by omega)]; exact k2, by rw [hW.frozen]; exact k3, k4⟩

/-- cells that are not written -/
theorem cells_out {w' : World} {ow ow' : Owner} (hne : ow ≠ ow') {b o b' o' : Nat} {cs : List AV} {vs : List Value} (hc : CellsAt C g own w ow b o cs) (hW : Wr w w' b' o' vs) (how : ∀ j, j < vs.length → own b' (o' + j) = ow') :
    CellsAt C g own w' ow b o cs := by
  refine ⟨hc.1, fun j y hy => ?_⟩
  obtain ⟨k1, v, k2, k3, k4⟩ := hc.2 j y hy
  refine ⟨k1, v, ?_, by rw [hW.frozen]; exact k3, k4⟩
  rw [hW.out b (o + j) ?_]
  · exact k2
  · rintro ⟨rfl, h1, h2⟩
    have := how (o + j - o') (by omega)
    rw [show o' + (o + j - o') = o + j by omega] at this
    exact hne (k1.symm.trans this)

theorem own_out {ow ow' : Owner} (hne : ow ≠ ow') {w' : World} {b o b' o' : Nat} {vs : List Value} (ho : own b o = ow) (hW : Wr w w' b' o' vs) (how : ∀ j, j < vs.length → own b' (o' + j) = ow') :
    w'.cell? ⟨b, o, none⟩ = w.cell? ⟨b, o, none⟩ := by
  refine hW.out b o ?_
  rintro ⟨rfl, h1, h2⟩
  have := how (o - o') (by omega)
  rw [show o' + (o - o') = o by omega] at this
  exact hne (ho.symm.trans this)

/-- a write into a local variable -/
theorem St.wr_slot (hS : St C g own B H w) {w' : World} {b o s : Nat} {vs : List Value} (hW : Wr w w' b o vs) (how : ∀ j, j < vs.length → own b (o + j) = .slot s) : St C g own B H w' where
  imm := fun b' o' v h => by
    obtain ⟨h1, h2⟩ := hS.imm b' o' v h
    exact ⟨h1, by rw [own_out (by simp) h1 hW how]; exact h2⟩
  obj := fun id cs h => by
    obtain ⟨b', o', h1, h2⟩ := hS.obj id cs h
    exact ⟨b', o', h1, cells_out (by simp) h2 hW how⟩
  arr := fun id nl sz xs h => by
    obtain ⟨⟨ph, h1, h2, h3⟩, h4⟩ := hS.arr id nl sz xs h
    refine ⟨⟨ph, h1, h2, ?_⟩, h4⟩
    cases hp : ph.base with
    | none => rw [hp] at h3; exact h3
    | some p =>
      obtain ⟨b', o'⟩ := p
      rw [hp] at h3
      obtain ⟨k1, k2, k3, k4, k5⟩ := h3
      refine ⟨k1, k2, k3, fun k hk => ?_, fun i x j y hx hy => ?_⟩
      · obtain ⟨m1, v, m2, m3, m4⟩ := k4 k hk
        exact ⟨m1, v, by rw [own_out (by simp) m1 hW how]; exact m2, by rw [hW.frozen]; exact m3, m4⟩
      · obtain ⟨v, m1, m2⟩ := k5 i x j y hx hy
        have hi := (List.getElem?_eq_some_iff.1 hx).1
        have hj : j < sz := by
          have := (List.getElem?_eq_some_iff.1 hy).1
          have := (k3 i x hx).1
          omega
        have hk := (k4 (i * sz + j) (idx_lt hi k2 hj)).1
        rw [← Nat.add_assoc] at hk
        exact ⟨v, by rw [own_out (by simp) hk hW how]; exact m1, m2⟩
  mp := fun id es h => (hS.mp id es h).step (.refl g) (fun _ hb => hb) fun _ _ _ _ hm => hW.maps _ _ _ hm
  next := hS.next
  ext := fun b' o' => by rw [hW.size]; exact hS.ext b' o'
  base := hS.base
  size := by rw [hW.size]; exact hS.size
  ro := hS.ro
  gl := hS.gl

end
end Ey
