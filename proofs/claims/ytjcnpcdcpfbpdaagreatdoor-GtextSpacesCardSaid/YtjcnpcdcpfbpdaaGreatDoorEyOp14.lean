/- append, to its end. -/
import Derived.Test.YtjcnpcdcpfbpdaaGreatDoorEyOp13
namespace Ey
open Go Go.RowKit

theorem Heap.put_same {H : Heap} {id : Nat} {bl : Blk} (h : H.get id = some bl) : H.put id (some bl) = H := by
  cases H
  simp only [Heap.put] at h ⊢
  congr 1
  funext i
  split
  · rename_i e; subst e; exact h.symm
  · rfl

section
variable {C : Cx} {g : Gh} {own : Own} {B : Nat} {H : Heap} {w : World} {env : Env} {a : Act} {n : Nat} {L : List Nat}

/-- not room enough -/
theorem run_app_more {t tx ty e : TypeId} {d : TypeDesc} {i : TypeInfo} {z : Value} {sz : Nat} (hu : C.P.underlying t = some (.slice e)) (hx : C.P.underlying tx = some d) (hd : SrcTy d) (hi : C.P.info? e = some i) (hsz : i.size = sz)
    (hby : i.bytes ≤ 65536) (hz : i.zero = some z) {v : Value} {m : Nat} (hm : (Builtin.lenOf v).run C.P w = .ok m w) {news : List Value} (hf : (Builtin.firstCells sz m v).run C.P w.drew = .ok news.toArray w.drew) {base : Option Addr} {sLen sCap : Nat}
    {olds : List Value} (ho : (Builtin.firstCells sz sLen (.slice base sLen sCap)).run C.P w.drew = .ok olds.toArray w.drew) (hg : sCap < sLen + m) (hlim : sLen + m ≤ 2 ^ 30) :
    (Builtin.append_ #[t, tx] ty #[.slice base sLen sCap, v]).run C.P w = .ok (.slice (some ⟨w.heap.size, 0, none⟩) (sLen + m) (grownCap w (sLen + m) sCap e))
      (w.drew.alloc (.cells (olds.toArray ++ news.toArray ++ Builtin.zeroCells z.cells (grownCap w (sLen + m) sCap e - (sLen + m))) e)) := by
  have hn : ¬ (sLen + m ≤ sCap) := by omega
  have h63 : ¬ (9223372036854775807 < ((sLen : Int) + (m : Int))) := by omega
  have h48 : ¬ (281474976710656 < Builtin.nextslicecap (sLen + m) sCap * i.bytes) := by
    have h1 := nextslicecap_le hg
    have : Builtin.nextslicecap (sLen + m) sCap * i.bytes ≤ (2 * (sLen + m)) * 65536 := Nat.mul_le_mul h1 hby
    omega
  subst hsz
  rcases hd with ⟨e', rfl⟩ | rfl
  · simp [Builtin.append_, run_underlying hu, run_underlying hx, Go.sizeOf, typeInfo, zeroValue, hi, hz, hm, hn, h63, h48, Question.forced, hf, ho, newRow, grownCap]
    congr 2
    apply Array.ext'
    simp [List.append_assoc]
  · simp [Builtin.append_, run_underlying hu, run_underlying hx, Go.sizeOf, typeInfo, zeroValue, hi, hz, hm, hn, h63, h48, Question.forced, hf, ho, newRow, grownCap]
    congr 2
    apply Array.ext'
    simp [List.append_assoc]

/-- an array of the heap comes to lie in a new block -/
theorem chg_moved (hS : St C g own B H w) {w1 : World} (hN : New w w1) {c : Array Value} (hcell : ∀ j, w1.cell? ⟨w.heap.size, j, none⟩ = c[j]?) (hfr : ∀ j, w1.frozen? ⟨w.heap.size, j, none⟩ = false)
    {xs : List AV} {sz cap : Nat} (h0 : 0 < sz) (hsz : ∀ x ∈ xs, x.cells.length = sz) (hcap : xs.length ≤ cap) (hcs : CR C g (flat xs) (c.toList.take (xs.length * sz))) (hc : c.size = cap * sz)
    {id : Nat} {H' : Heap} (hget : H'.get id = some (.arr false sz xs)) (hoth : ∀ i, i ≠ id → H'.get i = H.get i) (hro : H'.ro = H.ro) (hnx : H.next ≤ H'.next) (hlt : id < H'.next) (hge : H.ro ≤ id)
    (hver : ∀ v p, g.ar id v = some p → p.sz = sz ∧ v < xs.length) :
    ∃ g', Chg C g own B H w g' (growOwn own w.heap.size fun _ => .heap id) H' w1 id ∧ VR C g' (.ms id xs.length 0 xs.length) (.slice (some ⟨w.heap.size, 0, none⟩) xs.length cap) := by
  let ph : Ph := ⟨some (w.heap.size, 0), cap, sz⟩
  let g' : Gh := { g with ar := fun i v => if i = id ∧ v = xs.length then some ph else g.ar i v }
  have hle : g.Le g' := ⟨fun _ _ _ h => h, fun _ _ h => h, fun i v p h => by
    by_cases e : i = id ∧ v = xs.length
    · obtain ⟨rfl, rfl⟩ := e
      have := (hver _ _ h).2
      omega
    · simp only [g', if_neg e]; exact h⟩
  refine ⟨g', ?_, ?_⟩
  · refine ⟨hle, fun b o h1 h2 => ?_, fun b es c h1 h2 hm => by rw [hN.old b (hS.lt h1)]; exact hm, fun b o v h => ?_, fun _ _ => rfl, fun _ => rfl, fun i e v => by simp [g', e], hoth, fun bl hb => ?_, hro, hnx, hlt, hge, fun b o => ?_, fun b o => ?_, hN.below hS.size⟩
    · have hlt := hS.lt h1
      exact ⟨growOwn_old hS _ h1, hN.cell hlt, hN.frozen hlt⟩
    · obtain ⟨k1, k2⟩ := hS.imm b o v h
      have hne : own b o ≠ .free := by rw [k1]; simp
      exact ⟨by rw [growOwn_old hS _ hne]; exact k1, by rw [hN.cell (hS.lt hne)]; exact k2⟩
    · rw [hget] at hb
      simp only [Option.some.injEq] at hb
      subst hb
      refine ⟨⟨ph, by simp [g'], rfl, ⟨rfl, h0⟩, hcap, fun i x hx => ⟨hsz x (List.mem_of_getElem? hx), fun e he => hcs.one e (List.mem_flatMap.2 ⟨x, List.mem_of_getElem? hx, he⟩)⟩, fun k hk => ?_, fun i x j y hx hy => ?_⟩, fun v p h => ?_⟩
      · have hk' : k < c.size := by rw [hc]; exact hk
        exact ⟨by simp [growOwn], c[k], by rw [Nat.zero_add, hcell]; simp [hk'], hfr _, trivial⟩
      · have hi := (List.getElem?_eq_some_iff.1 hx).1
        have hj : j < sz := by
          have := (List.getElem?_eq_some_iff.1 hy).1
          have := hsz x (List.mem_of_getElem? hx)
          omega
        have hk := idx_lt hi hcap hj
        have hk' : i * sz + j < c.size := by rw [hc]; exact hk
        have hk2 := idx_lt hi (Nat.le_refl _) hj
        refine ⟨c[i * sz + j], by rw [Nat.zero_add, hcell]; simp [hk'], ?_⟩
        exact (hcs.rel (i * sz + j) y _ (by rw [flat_get hsz hx hj]; exact hy) (by rw [List.getElem?_take, if_pos hk2]; simp [hk'])).mono hle
      · simp only [g', true_and] at h
        split at h
        · rename_i hv; simp at h; subst h; exact ⟨rfl, by omega⟩
        · have := hver _ _ h; exact ⟨this.1, by omega⟩
    · simp only [growOwn]
      by_cases hb : b = w.heap.size
      · exact .inr (by have := hN.size; omega)
      · rw [if_neg hb]
        rcases hS.ext b o with h | h
        · exact .inl h
        · exact .inr (by have := hN.size; omega)
    · simp only [growOwn]
      by_cases hb : b = w.heap.size
      · intro _; have := hS.size; omega
      · rw [if_neg hb]; exact hS.base b o
  · have := VR.ms (C := C) (g := g') id xs.length 0 xs.length w.heap.size 0 cap sz ⟨w.heap.size, 0, none⟩ (by simp [g', ph]) (by omega) ⟨rfl, .inr (by simp)⟩
    simpa using this

theorem cell_drew_new (w : World) (c : Array Value) (t : TypeId) (j : Nat) : (w.drew.alloc (.cells c t)).cell? ⟨w.heap.size, j, none⟩ = c[j]? := cell_new w.drew c t j
theorem frozen_drew_new (w : World) (c : Array Value) (t : TypeId) (j : Nat) : (w.drew.alloc (.cells c t)).frozen? ⟨w.heap.size, j, none⟩ = false := frozen_new w.drew c t j

theorem CR.append {cs ds : List AV} {ws us : List Value} (h : CR C g cs ws) (k : CR C g ds us) : CR C g (cs ++ ds) (ws ++ us) := by
  have e := h.len
  refine ⟨by simp [h.len, k.len], fun c hc => (List.mem_append.1 hc).elim (h.one c) (k.one c), fun i x y hx hy => ?_⟩
  by_cases hi : i < cs.length
  · rw [List.getElem?_append_left hi] at hx
    rw [List.getElem?_append_left (by omega)] at hy
    exact h.rel i x y hx hy
  · rw [List.getElem?_append_right (by omega)] at hx hy
    rw [← e] at hy
    exact k.rel _ x y hx hy

theorem flat_append (xs ys : List AV) : flat (xs ++ ys) = flat xs ++ flat ys := by simp [flat]

theorem le_grownCap (w : World) (need old : Nat) (e : TypeId) : need ≤ grownCap w need old e := by simp [grownCap, Question.cut]

/-- the moved array, by what append wrote -/
theorem moved_row {xs ys : List AV} {sz : Nat} (hxs : ∀ x ∈ xs, x.cells.length = sz) (hys : ∀ x ∈ ys, x.cells.length = sz) {olds news : List Value} (ho : CR C g (flat xs) olds) (hn : CR C g (flat ys) news) {z : Array Value} (hz : z.size = sz) {nc : Nat}
    (hnc : xs.length + ys.length ≤ nc) :
    (∀ x ∈ xs ++ ys, x.cells.length = sz) ∧ CR C g (flat (xs ++ ys)) ((olds.toArray ++ news.toArray ++ Builtin.zeroCells z (nc - (xs.length + ys.length))).toList.take ((xs ++ ys).length * sz)) ∧
      (olds.toArray ++ news.toArray ++ Builtin.zeroCells z (nc - (xs.length + ys.length))).size = nc * sz := by
  have h1 := ho.len
  have h2 := hn.len
  rw [flat_len hxs] at h1
  rw [flat_len hys] at h2
  refine ⟨fun x hx => (List.mem_append.1 hx).elim (hxs x) (hys x), ?_, ?_⟩
  · have : (olds.toArray ++ news.toArray ++ Builtin.zeroCells z (nc - (xs.length + ys.length))).toList.take ((xs ++ ys).length * sz) = olds ++ news := by
      simp only [Array.toList_append, List.length_append, Nat.add_mul]
      rw [List.take_append_of_le_length (by simp; omega)]
      rw [List.take_of_length_le (by simp; omega)]
    rw [this, flat_append]
    exact ho.append hn
  · simp [size_zeroCells, hz, ← h1, ← h2]
    rw [← Nat.add_mul, ← Nat.add_mul]
    congr 1
    omega
end
end Ey
