/- append, to its end. -/
import Derived.Test.YtijaafflmbjdgaaGreatDoorEyB0
import Derived.IntWalk
import Derived.MapKept
import Derived.ChangeMaps5
import Derived.Stop.SameAnswer
import Derived.Laws.IdiomStrings
namespace Ey
open Go Go.RowKit

theorem Heap.put_same {H : Heap} {id : Nat} {bl : Blk} (h : H.get id = some bl) : H.put id (some bl) = H := by
  cases H
  simp only [Heap.put] at h ⊢
  congr 1
  funext i
  split
  · rename_i e; subst e; exact h.symm
  · rfl

section
variable {C : Cx} {g : Gh} {own : Own} {B : Nat} {H : Heap} {w : World} {env : Env} {a : Act} {n : Nat} {L : List Nat}

theorem run_app_more {t tx ty e : TypeId} {d : TypeDesc} {i : TypeInfo} {z : Value} {sz : Nat} (hu : C.P.underlying t = some (.slice e)) (hx : C.P.underlying tx = some d) (hd : SrcTy d) (hi : C.P.info? e = some i) (hsz : i.size = sz)
    (hby : i.bytes ≤ 65536) (hz : i.zero = some z) {v : Value} {m : Nat} (hm : (Builtin.lenOf v).run C.P w = .ok m w) {news : List Value} (hf : (Builtin.firstCells sz m v).run C.P w.drew = .ok news.toArray w.drew) {base : Option Addr} {sLen sCap : Nat}
    {olds : List Value} (ho : (Builtin.firstCells sz sLen (.slice base sLen sCap)).run C.P w.drew = .ok olds.toArray w.drew) (hg : sCap < sLen + m) (hlim : sLen + m ≤ 2 ^ 30) :
    (Builtin.append_ #[t, tx] ty #[.slice base sLen sCap, v]).run C.P w = .ok (.slice (some ⟨w.heap.size, 0, none⟩) (sLen + m) (grownCap w (sLen + m) sCap e))
      (w.drew.alloc (.cells (olds.toArray ++ news.toArray ++ Builtin.zeroCells z.cells (grownCap w (sLen + m) sCap e - (sLen + m))) e)) := by
  have hn : ¬ (sLen + m ≤ sCap) := by omega
  have h63 : ¬ (9223372036854775807 < ((sLen : Int) + (m : Int))) := by omega
  have h48 : ¬ (281474976710656 < Builtin.nextslicecap (sLen + m) sCap * i.bytes) := by
    have h1 := nextslicecap_le hg
    have : Builtin.nextslicecap (sLen + m) sCap * i.bytes ≤ (2 * (sLen + m)) * 65536 := Nat.mul_le_mul h1 hby
    omega
  subst hsz
  rcases hd with ⟨e', rfl⟩ | rfl
  · simp [Builtin.append_, run_underlying hu, run_underlying hx, Go.sizeOf, typeInfo, zeroValue, hi, hz, hm, hn, h63, h48, Question.forced, hf, ho, newRow, grownCap]
    congr 2
    apply Array.ext'
    simp [List.append_assoc]
  · simp [Builtin.append_, run_underlying hu, run_underlying hx, Go.sizeOf, typeInfo, zeroValue, hi, hz, hm, hn, h63, h48, Question.forced, hf, ho, newRow, grownCap]
    congr 2
    apply Array.ext'
    simp [List.append_assoc]

theorem chg_moved (hS : St C g own B H w) {w1 : World} (hN : New w w1) {c : Array Value} (hcell : ∀ j, w1.cell? ⟨w.heap.size, j, none⟩ = c[j]?) (hfr : ∀ j, w1.frozen? ⟨w.heap.size, j, none⟩ = false)
    {xs : List AV} {sz cap : Nat} (h0 : 0 < sz) (hsz : ∀ x ∈ xs, x.cells.length = sz) (hcap : xs.length ≤ cap) (hcs : CR C g (flat xs) (c.toList.take (xs.length * sz))) (hc : c.size = cap * sz)
    {id : Nat} {H' : Heap} (hget : H'.get id = some (.arr false sz xs)) (hoth : ∀ i, i ≠ id → H'.get i = H.get i) (hro : H'.ro = H.ro) (hnx : H.next ≤ H'.next) (hlt : id < H'.next) (hge : H.ro ≤ id)
    (hver : ∀ v p, g.ar id v = some p → p.sz = sz ∧ v < xs.length) :
    ∃ g', Chg C g own B H w g' (growOwn own w.heap.size fun _ => .heap id) H' w1 id ∧ VR C g' (.ms id xs.length 0 xs.length) (.slice (some ⟨w.heap.size, 0, none⟩) xs.length cap) := by
  let ph : Ph := ⟨some (w.heap.size, 0), cap, sz⟩
  let g' : Gh := { g with ar := fun i v => if i = id ∧ v = xs.length then some ph else g.ar i v }
  have hle : g.Le g' := ⟨fun _ _ _ h => h, fun _ _ h => h, fun i v p h => by
    by_cases e : i = id ∧ v = xs.length
    · obtain ⟨rfl, rfl⟩ := e
      have := (hver _ _ h).2
      omega
    · simp only [g', if_neg e]; exact h⟩
  refine ⟨g', ?_, ?_⟩
  · refine ⟨hle, fun b o h1 h2 => ?_, fun b es c h1 h2 hm => by rw [hN.old b (hS.lt h1)]; exact hm, fun b o v h => ?_, fun _ _ => rfl, fun _ => rfl, fun i e v => by simp [g', e], hoth, fun bl hb => ?_, hro, hnx, hlt, hge, fun b o => ?_, fun b o => ?_, hN.below hS.size⟩
    · have hlt := hS.lt h1
      exact ⟨growOwn_old hS _ h1, hN.cell hlt, hN.frozen hlt⟩
    · obtain ⟨k1, k2⟩ := hS.imm b o v h
      have hne : own b o ≠ .free := by rw [k1]; simp
      exact ⟨by rw [growOwn_old hS _ hne]; exact k1, by rw [hN.cell (hS.lt hne)]; exact k2⟩
    · rw [hget] at hb
      simp only [Option.some.injEq] at hb
      subst hb
      refine ⟨⟨ph, by simp [g'], rfl, ⟨rfl, h0⟩, hcap, fun i x hx => ⟨hsz x (List.mem_of_getElem? hx), fun e he => hcs.one e (List.mem_flatMap.2 ⟨x, List.mem_of_getElem? hx, he⟩)⟩, fun k hk => ?_, fun i x j y hx hy => ?_⟩, fun v p h => ?_⟩
      · have hk' : k < c.size := by rw [hc]; exact hk
        exact ⟨by simp [growOwn], c[k], by rw [Nat.zero_add, hcell]; simp [hk'], hfr _, trivial⟩
      · have hi := (List.getElem?_eq_some_iff.1 hx).1
        have hj : j < sz := by
          have := (List.getElem?_eq_some_iff.1 hy).1
          have := hsz x (List.mem_of_getElem? hx)
          omega
        have hk := idx_lt hi hcap hj
        have hk' : i * sz + j < c.size := by rw [hc]; exact hk
        have hk2 := idx_lt hi (Nat.le_refl _) hj
        refine ⟨c[i * sz + j], by rw [Nat.zero_add, hcell]; simp [hk'], ?_⟩
        exact (hcs.rel (i * sz + j) y _ (by rw [flat_get hsz hx hj]; exact hy) (by rw [List.getElem?_take, if_pos hk2]; simp [hk'])).mono hle
      · simp only [g', true_and] at h
        split at h
        · rename_i hv; simp at h; subst h; exact ⟨rfl, by omega⟩
        · have := hver _ _ h; exact ⟨this.1, by omega⟩
    · simp only [growOwn]
      by_cases hb : b = w.heap.size
      · exact .inr (by have := hN.size; omega)
      · rw [if_neg hb]
        rcases hS.ext b o with h | h
        · exact .inl h
        · exact .inr (by have := hN.size; omega)
    · simp only [growOwn]
      by_cases hb : b = w.heap.size
      · intro _; have := hS.size; omega
      · rw [if_neg hb]; exact hS.base b o
  · have := VR.ms (C := C) (g := g') id xs.length 0 xs.length w.heap.size 0 cap sz ⟨w.heap.size, 0, none⟩ (by simp [g', ph]) (by omega) ⟨rfl, .inr (by simp)⟩
    simpa using this

theorem cell_drew_new (w : World) (c : Array Value) (t : TypeId) (j : Nat) : (w.drew.alloc (.cells c t)).cell? ⟨w.heap.size, j, none⟩ = c[j]? := cell_new w.drew c t j
theorem frozen_drew_new (w : World) (c : Array Value) (t : TypeId) (j : Nat) : (w.drew.alloc (.cells c t)).frozen? ⟨w.heap.size, j, none⟩ = false := frozen_new w.drew c t j

theorem CR.append {cs ds : List AV} {ws us : List Value} (h : CR C g cs ws) (k : CR C g ds us) : CR C g (cs ++ ds) (ws ++ us) := by
  have e := h.len
  refine ⟨by simp [h.len, k.len], fun c hc => (List.mem_append.1 hc).elim (h.one c) (k.one c), fun i x y hx hy => ?_⟩
  by_cases hi : i < cs.length
  · rw [List.getElem?_append_left hi] at hx
    rw [List.getElem?_append_left (by omega)] at hy
    exact h.rel i x y hx hy
  · rw [List.getElem?_append_right (by omega)] at hx hy
    rw [← e] at hy
    exact k.rel _ x y hx hy

theorem flat_append (xs ys : List AV) : flat (xs ++ ys) = flat xs ++ flat ys := by simp [flat]

theorem le_grownCap (w : World) (need old : Nat) (e : TypeId) : need ≤ grownCap w need old e := by simp [grownCap, Question.cut]

theorem moved_row {xs ys : List AV} {sz : Nat} (hxs : ∀ x ∈ xs, x.cells.length = sz) (hys : ∀ x ∈ ys, x.cells.length = sz) {olds news : List Value} (ho : CR C g (flat xs) olds) (hn : CR C g (flat ys) news) {z : Array Value} (hz : z.size = sz) {nc : Nat}
    (hnc : xs.length + ys.length ≤ nc) :
    (∀ x ∈ xs ++ ys, x.cells.length = sz) ∧ CR C g (flat (xs ++ ys)) ((olds.toArray ++ news.toArray ++ Builtin.zeroCells z (nc - (xs.length + ys.length))).toList.take ((xs ++ ys).length * sz)) ∧
      (olds.toArray ++ news.toArray ++ Builtin.zeroCells z (nc - (xs.length + ys.length))).size = nc * sz := by
  have h1 := ho.len
  have h2 := hn.len
  rw [flat_len hxs] at h1
  rw [flat_len hys] at h2
  refine ⟨fun x hx => (List.mem_append.1 hx).elim (hxs x) (hys x), ?_, ?_⟩
  · have : (olds.toArray ++ news.toArray ++ Builtin.zeroCells z (nc - (xs.length + ys.length))).toList.take ((xs ++ ys).length * sz) = olds ++ news := by
      simp only [Array.toList_append, List.length_append, Nat.add_mul]
      rw [List.take_append_of_le_length (by simp; omega)]
      rw [List.take_of_length_le (by simp; omega)]
    rw [this, flat_append]
    exact ho.append hn
  · simp [size_zeroCells, hz, ← h1, ← h2]
    rw [← Nat.add_mul, ← Nat.add_mul]
    congr 1
    omega
end
end Ey

namespace Ey
open Go Go.RowKit

section
variable {C : Cx} {g : Gh} {own : Own} {B : Nat} {H : Heap} {w : World} {env : Env} {a : Act} {n : Nat} {L : List Nat}

theorem done_of_chg (hS : St C g own B H w) (hF : Fr C g own w env a.tmps n L) {d : Option Nat} (hd : dstOK n L d) {g' : Gh} {own' : Own} {H' : Heap} {w' : World} {id0 : Nat} (h : Chg C g own B H w g' own' H' w' id0) {x : AV} {v : Value} (hx : VR C g' x v) :
    Done C g own B H w a n L d (setDst d (.v x) env) H' (.ok (.value v) w') :=
  ⟨g', own', w', v, .inl rfl, h.toExt, h.st hS, (h.fr hF).put hd (x := .v x) hx rfl⟩

theorem flat_one {zs : List AV} (h : ∀ x ∈ zs, ∀ c ∈ x.cells, c.one = true) : ∀ c ∈ flat zs, c.one = true := fun c hc => by
  obtain ⟨y, hy, hc⟩ := List.mem_flatMap.1 hc
  exact h y hy c hc

theorem arr_run (hS : St C g own B H w) {id : Nat} {nl : Bool} {sz : Nat} (h0 : 0 < sz) {xs : List AV} (hg : H.get id = some (.arr nl sz xs)) {b o cap : Nat} (hp : g.ar id xs.length = some ⟨some (b, o), cap, sz⟩) :
    ∃ olds : List Value, CR C g (flat xs) olds ∧ ∀ w1 : World, (∀ q, w1.cell? q = w.cell? q) → ∀ c, (Builtin.firstCells sz xs.length (.slice (some ⟨b, o, none⟩) xs.length c)).run C.P w1 = .ok olds.toArray w1 := by
  have hx : VR C g (.ms id xs.length 0 xs.length) (.slice (some ⟨b, o, none⟩) xs.length (cap - 0)) := by
    obtain ⟨⟨ph, h1, h2, h3⟩, _⟩ := hS.arr _ _ _ _ hg
    rw [hp] at h1; simp at h1; subst h1
    exact .ms id xs.length 0 xs.length b o cap sz _ hp (by have h4 := h3.2.1; simp only at h4; omega) ⟨rfl, .inr (by simp)⟩
  have he : elemsOf H sz (.ms id xs.length 0 xs.length) = some xs := by simp [elemsOf, hg]
  obtain ⟨_, _, olds, h4, h5⟩ := elems_run hS h0 hx he
  refine ⟨olds, h4, fun w1 hw1 c => ?_⟩
  have := h5 w1 hw1
  simpa [Builtin.firstCells] using this

theorem ms_inv {id ver lo len : Nat} {v : Value} (h : VR C g (.ms id ver lo len) v) : (∃ sz, ver = 0 ∧ lo = 0 ∧ len = 0 ∧ v = .slice none 0 0 ∧ g.ar id 0 = some ⟨none, 0, sz⟩) ∨
    ∃ b o cap sz ad, v = .slice (some ad) len (cap - lo) ∧ g.ar id ver = some ⟨some (b, o), cap, sz⟩ ∧ lo + len ≤ cap ∧ ad.spot = none ∧ (lo = cap ∨ ad = ⟨b, o + lo * sz, none⟩) := by
  generalize hx : AV.ms id ver lo len = x at h
  cases h <;> try (simp at hx; done)
  · rename_i id' sz h
    simp at hx; obtain ⟨rfl, rfl, rfl, rfl⟩ := hx
    exact .inl ⟨sz, rfl, rfl, rfl, rfl, h⟩
  · rename_i id' ver' lo' len' b o cap sz ad h hl ha
    simp at hx; obtain ⟨rfl, rfl, rfl, rfl⟩ := hx
    exact .inr ⟨b, o, cap, sz, ad, rfl, h, hl, ha⟩

theorem run_app_none {t tx ty e : TypeId} {d : TypeDesc} {i : TypeInfo} {sz : Nat} (hu : C.P.underlying t = some (.slice e)) (hx : C.P.underlying tx = some d) (hd : SrcTy d) (hi : C.P.info? e = some i) (hsz : i.size = sz)
    {v : Value} (hm : (Builtin.lenOf v).run C.P w = .ok 0 w) (hf : (Builtin.firstCells sz 0 v).run C.P w = .ok #[] w) {base : Option Addr} {sLen sCap : Nat} (hroom : sLen ≤ sCap) :
    (Builtin.append_ #[t, tx] ty #[.slice base sLen sCap, v]).run C.P w = .ok (.slice base sLen sCap) w := by
  subst hsz
  cases base <;> rcases hd with ⟨e', rfl⟩ | rfl <;>
    simp [Builtin.append_, run_underlying hu, run_underlying hx, Go.sizeOf, typeInfo, hi, hm, hroom, hf, storeCells]

theorem cells_drew (w : World) : ∀ q, w.drew.cell? q = w.cell? q := fun _ => rfl

def splice (xs ys : List AV) (s : Nat) : List AV := xs.take s ++ ys ++ xs.drop (s + ys.length)

theorem splice_get {xs ys : List AV} {s : Nat} (h : s ≤ xs.length) (i : Nat) : (splice xs ys s)[i]? = if i < s then xs[i]? else if i < s + ys.length then ys[i - s]? else xs[i]? := by
  unfold splice
  by_cases h1 : i < s
  · rw [if_pos h1, List.append_assoc, List.getElem?_append_left (by simp; omega), List.getElem?_take, if_pos h1]
  · rw [if_neg h1, List.append_assoc, List.getElem?_append_right (by simp; omega)]
    simp only [List.length_take]
    rw [Nat.min_eq_left (by omega)]
    by_cases h2 : i < s + ys.length
    · rw [if_pos h2, List.getElem?_append_left (by omega)]
    · rw [if_neg h2, List.getElem?_append_right (by omega), List.getElem?_drop]
      congr 1
      omega

theorem splice_len {xs ys : List AV} {s : Nat} (h : s ≤ xs.length) : (splice xs ys s).length = max xs.length (s + ys.length) := by
  simp [splice]; omega

theorem chg_inplace (hS : St C g own B H w) {id : Nat} {sz : Nat} (h0 : 0 < sz) {xs ys : List AV} (hg : H.get id = some (.arr false sz xs)) {b o cap : Nat} (hpar : g.ar id xs.length = some ⟨some (b, o), cap, sz⟩) {s : Nat} (hs : s ≤ xs.length)
    (hcap : s + ys.length ≤ cap) (hro : H.ro ≤ id) (hys : ∀ y ∈ ys, y.cells.length = sz) {news : List Value} (hn : CR C g (flat ys) news) (hy0 : 0 < ys.length) {w' : World} (hW : Wr w w' b (o + s * sz) news) :
    ∃ g', Chg C g own B H w g' own (H.put id (some (.arr false sz (splice xs ys s)))) w' id ∧ g'.ar id (splice xs ys s).length = some ⟨some (b, o), cap, sz⟩ := by
  obtain ⟨⟨ph, h1, h2, h3⟩, hvers⟩ := hS.arr _ _ _ _ hg
  rw [hpar] at h1; simp at h1; subst h1
  obtain ⟨_, k2, k3, k4, k5⟩ := h3
  simp only at k2 k4
  have hnl := hn.len
  rw [flat_len hys] at hnl
  let ph : Ph := ⟨some (b, o), cap, sz⟩
  let g' : Gh := { g with ar := fun i v => if i = id ∧ v = (splice xs ys s).length then some ph else g.ar i v }
  have hslen := splice_len (ys := ys) hs
  have hle : g.Le g' := ⟨fun _ _ _ h => h, fun _ _ h => h, fun i v p h => by
    by_cases e : i = id ∧ v = (splice xs ys s).length
    · obtain ⟨rfl, rfl⟩ := e
      simp only [g', and_self, if_true]
      have hv := (hvers _ _ h).2
      have : (splice xs ys s).length = xs.length := by omega
      rw [this, hpar] at h
      exact h
    · simp only [g', if_neg e]; exact h⟩
  have hrange : ∀ j, j < news.length → s * sz + j < cap * sz := fun j hj => by
    have h1 : (s + ys.length) * sz ≤ cap * sz := Nat.mul_le_mul_right _ hcap
    rw [Nat.add_mul] at h1
    omega
  have how : ∀ j, j < news.length → own b (o + s * sz + j) = .heap id := fun j hj => by
    have := (k4 _ (hrange j hj)).1
    rwa [← Nat.add_assoc] at this
  have hB : B ≤ b := hS.base b (o + 0) ⟨id, .inl (k4 0 (by have := Nat.mul_le_mul_right sz (show 1 ≤ cap by omega); omega)).1⟩
  refine ⟨g', chg_wr hS hW how (get_lt hS hg) hro hle rfl rfl (fun i hi v => by simp [g', hi]) (fun bl h => ?_) (hW.below B hB), by simp [g', ph]⟩
  simp only [Option.some.injEq] at h; subst h
  have hel : ∀ (i : Nat) (x : AV), (splice xs ys s)[i]? = some x → ((i < s ∨ s + ys.length ≤ i) ∧ xs[i]? = some x) ∨ (s ≤ i ∧ i < s + ys.length ∧ ys[i - s]? = some x) := fun i x hx => by
    rw [splice_get hs] at hx
    split at hx
    · exact .inl ⟨.inl (by assumption), hx⟩
    · split at hx
      · exact .inr ⟨by omega, by assumption, hx⟩
      · exact .inl ⟨.inr (by omega), hx⟩
  refine ⟨⟨ph, by simp [g', ph], rfl, ⟨rfl, h0⟩, by simp only [ph]; omega, fun i x hx => ?_, fun k hk => ?_, fun i x j y hx hy => ?_⟩, fun v p h => ?_⟩
  · rcases hel i x hx with ⟨_, h⟩ | ⟨_, _, h⟩
    · exact k3 i x h
    · have hm := List.mem_of_getElem? h
      exact ⟨hys x hm, fun c hc => hn.one c (List.mem_flatMap.2 ⟨x, hm, hc⟩)⟩
  · obtain ⟨m1, u, m2, m3, m4⟩ := k4 k hk
    by_cases hin : o + s * sz ≤ o + k ∧ o + k < o + s * sz + news.length
    · have hjv : o + k - (o + s * sz) < news.length := by omega
      have := hW.inn _ _ (List.getElem?_eq_getElem hjv)
      rw [show o + s * sz + (o + k - (o + s * sz)) = o + k by omega] at this
      exact ⟨m1, _, this, by rw [hW.frozen]; exact m3, trivial⟩
    · exact ⟨m1, u, by rw [hW.out b (o + k) (by rintro ⟨_, p1, p2⟩; exact hin ⟨p1, p2⟩)]; exact m2, by rw [hW.frozen]; exact m3, m4⟩
  · rcases hel i x hx with ⟨hi, h⟩ | ⟨hi1, hi2, h⟩
    · obtain ⟨v, p1, p2⟩ := k5 i x j y h hy
      have hj : j < sz := by
        have := (List.getElem?_eq_some_iff.1 hy).1
        have := (k3 i x h).1
        omega
      refine ⟨v, ?_, p2.mono hle⟩
      rw [hW.out b (o + i * sz + j) ?_]
      · exact p1
      · rintro ⟨_, q1, q2⟩
        rcases hi with hi | hi
        · have h1 : (i + 1) * sz ≤ s * sz := Nat.mul_le_mul_right _ (by omega)
          rw [Nat.add_mul] at h1
          omega
        · have h1 : (s + ys.length) * sz ≤ i * sz := Nat.mul_le_mul_right _ hi
          rw [Nat.add_mul] at h1
          omega
    · have hj : j < sz := by
        have := (List.getElem?_eq_some_iff.1 hy).1
        have := hys x (List.mem_of_getElem? h)
        omega
      have hfl := flat_get hys h hj
      rw [hy] at hfl
      have hjl := (List.getElem?_eq_some_iff.1 hfl).1
      rw [hn.len] at hjl
      have hin := hW.inn _ _ (List.getElem?_eq_getElem hjl)
      have hii : i * sz = s * sz + (i - s) * sz := by rw [← Nat.add_mul]; congr 1; omega
      rw [show o + s * sz + ((i - s) * sz + j) = o + i * sz + j by omega] at hin
      exact ⟨_, hin, (hn.rel _ y _ hfl (List.getElem?_eq_getElem hjl)).mono hle⟩
  · simp only [g', true_and] at h
    split at h
    · rename_i hv; simp at h; subst h; exact ⟨rfl, by omega⟩
    · have := hvers _ _ h; exact ⟨this.1, by omega⟩

theorem chg_nil (hS : St C g own B H w) (sz : Nat) : ∃ g', Chg C g own B H w g' own (H.new (.arr true sz [])) w H.next ∧ VR C g' (.ms H.next 0 0 0) (.slice none 0 0) := by
  obtain ⟨hn1, hn2, hn3⟩ := hS.next H.next (Nat.le_refl _)
  let g' : Gh := { g with ar := fun i v => if i = H.next ∧ v = 0 then some ⟨none, 0, sz⟩ else g.ar i v }
  have hle : g.Le g' := ⟨fun _ _ _ h => h, fun _ _ h => h, fun i v p h => by
    by_cases e : i = H.next ∧ v = 0
    · obtain ⟨rfl, rfl⟩ := e; rw [hn3] at h; cases h
    · simp only [g', if_neg e]; exact h⟩
  refine ⟨g', ⟨hle, fun _ _ _ _ => ⟨rfl, rfl, rfl⟩, fun _ _ _ _ _ hm => hm, hS.imm, fun _ _ => rfl, fun _ => rfl, fun i hi v => by simp [g', hi], fun i hi => by simp [Heap.new, hi], fun bl hb => ?_, rfl, by simp [Heap.new], by simp [Heap.new], hS.ro, hS.ext, hS.base, .refl _ _⟩, .msNil _ sz (by simp [g'])⟩
  simp only [Heap.new, if_true, Option.some.injEq] at hb
  subst hb
  refine ⟨⟨⟨none, 0, sz⟩, by simp [g'], rfl, rfl, rfl, rfl⟩, fun v p h => ?_⟩
  simp only [g', true_and] at h
  split at h
  · simp at h; subst h; exact ⟨rfl, by omega⟩
  · rw [hn3] at h; cases h

set_option maxHeartbeats 1000000 in
theorem app_done (hS : St C g own B H w) (hF : Fr C g own w env a.tmps n L) {d : Option Nat} (hd : dstOK n L d) {t tx ty : TypeId} {sz : Nat} (ht : appOK C.P t tx sz = true) {p q : AV} {vp vq : Value} (hp : VR C g p vp) (hq : VR C g q vq)
    {r : AV} {H' : Heap} (hr : appS H sz p q = some (r, H')) :
    ∃ res, (do pure (Next.value (← Builtin.append_ #[t, tx] ty #[vp, vq])) : Sem Next).run C.P w = res ∧ Done C g own B H w a n L d (setDst d (.v r) env) H' res := by
  obtain ⟨e, de, i, z, hu, hx, hsrc, hi, hsz, h0, hby, hz, hzs⟩ := appOK_is ht
  refine ⟨_, rfl, ?_⟩
  unfold appS at hr
  split at hr
  · simp at hr
  rename_i ys hys
  obtain ⟨hlen, hysz, news, hnews, hfirst⟩ := elems_run hS h0 hq hys
  have hnl := hnews.len
  rw [flat_len hysz] at hnl
  have hone : ∀ u ∈ news, u.oneCell' = true := fun u hu => by
    obtain ⟨j, hj, rfl⟩ := List.mem_iff_getElem.1 hu
    have hj' : j < (flat ys).length := by rw [hnews.len]; exact hj
    exact (hnews.rel j _ _ (List.getElem?_eq_getElem hj') (List.getElem?_eq_getElem hj)).oneCell (hnews.one _ (List.getElem_mem hj'))
  -- a slice that comes to lie in a new block
  have grow : ∀ {base : Option Addr} {sCap : Nat} {xs : List AV} {olds : List Value} {id : Nat} {K : Heap}, (∀ x ∈ xs, x.cells.length = sz) → CR C g (flat xs) olds →
      (Builtin.firstCells sz xs.length (.slice base xs.length sCap)).run C.P w.drew = .ok olds.toArray w.drew → sCap < xs.length + ys.length → xs.length + ys.length ≤ mostLen →
      K.get id = some (.arr false sz (xs ++ ys)) → (∀ i, i ≠ id → K.get i = H.get i) → K.ro = H.ro → H.next ≤ K.next → id < K.next → H.ro ≤ id → (∀ v p, g.ar id v = some p → p.sz = sz ∧ v < (xs ++ ys).length) →
      Done C g own B H w a n L d (setDst d (.v (.ms id (xs ++ ys).length 0 (xs ++ ys).length)) env) K ((do pure (Next.value (← Builtin.append_ #[t, tx] ty #[.slice base xs.length sCap, vq])) : Sem Next).run C.P w) := by
    intro base sCap xs olds id K hxs ho hfo hg hmost k1 k2 k3 k4 k5 k6 k7
    have hrun := run_app_more (C := C) (ty := ty) hu hx hsrc hi hsz hby hz hlen (hfirst w.drew (cells_drew w)) hfo hg hmost
    obtain ⟨m1, m2, m3⟩ := moved_row hxs hysz ho hnews hzs (le_grownCap w (xs.length + ys.length) sCap e)
    obtain ⟨g', hchg, hv⟩ := chg_moved hS (New.drew_alloc w _) (cell_drew_new w _ e) (frozen_drew_new w _ e) h0 m1 (by simpa using le_grownCap w (xs.length + ys.length) sCap e) m2 m3 k1 k2 k3 k4 k5 k6 k7
    simp only [Sem.run_bind, hrun, Result.andThen_ok, Sem.run_pure]
    simp only [List.length_append] at hv ⊢
    exact done_of_chg hS hF hd hchg hv
  split at hr
  -- onto an array
  · rename_i id ver lo len
    split at hr
    · simp at hr
    rename_i hro
    split at hr
    · rename_i nl zz xs hg
      split at hr
      · rename_i hc
        obtain ⟨rfl, hver, hmost⟩ := hc
        have hlt := get_lt hS hg
        obtain ⟨⟨ph, h1, h2, h3⟩, hvers⟩ := hS.arr _ _ _ _ hg
        split at hr
        -- behind its last element
        · rename_i hc2
          obtain ⟨rfl, rfl⟩ := hc2
          simp only [Option.some.injEq, Prod.mk.injEq] at hr
          obtain ⟨rfl, rfl⟩ := hr
          subst hver
          rcases ms_inv hp with ⟨sz', hl, _, _, rfl, hpar⟩ | ⟨b, o, cap, sz', ad, rfl, hpar, hlc, ha⟩
          · obtain rfl : xs = [] := by simpa using hl
            simp only [List.length_nil] at h1 hvers hp
            rw [hpar] at h1; simp at h1; subst h1
            obtain ⟨k1, k2⟩ := h3
            subst k1
            by_cases hy0 : ys = []
            · subst hy0
              have hn0 : news = [] := by simpa using hnl.symm
              subst hn0
              have hrun := run_app_none (C := C) (ty := ty) hu hx hsrc hi hsz hlen (hfirst w (fun _ => rfl)) (base := none) (Nat.le_refl 0)
              simp only [Sem.run_bind, hrun, Result.andThen_ok, Sem.run_pure]
              have hH : H.put id (some (.arr (true && List.isEmpty ([] : List AV)) zz ([] ++ []))) = H := Heap.put_same (by simpa using hg)
              rw [hH]
              exact done_pure hS hF hd rfl (x := .v _) hp rfl
            · have hyl : 0 < ys.length := List.length_pos_iff.2 hy0
              have := grow (base := none) (sCap := 0) (xs := []) (olds := []) (id := id) (K := H.put id (some (.arr (true && ys.isEmpty) zz ([] ++ ys)))) (fun x hx => by simp at hx) ⟨rfl, fun c hc => by simp [flat] at hc, fun i x y hx => by simp [flat] at hx⟩
                (by simp [run_firstCells_none]) (by simpa using hyl) (by simpa using hmost) (by simp [Heap.put, hy0]) (fun i hi => by simp [Heap.put, hi]) rfl (Nat.le_refl _) hlt (by omega)
                (fun v p hp => by have := hvers v p hp; simp at this ⊢; exact ⟨this.1, by omega⟩)
              simpa using this
          · have h1' := h1
            rw [hpar] at h1'; simp at h1'; subst h1'
            simp only at h2 h3
            subst h2
            obtain ⟨k1, k2, k3, k4, k5⟩ := h3
            obtain ⟨rfl, _⟩ := k1
            by_cases hy0 : ys = []
            · subst hy0
              have hn0 : news = [] := by simpa using hnl.symm
              subst hn0
              have hrun := run_app_none (C := C) (ty := ty) hu hx hsrc hi hsz hlen (hfirst w (fun _ => rfl)) (base := some ad) (sLen := xs.length) (sCap := cap - 0) (by omega)
              simp only [Sem.run_bind, hrun, Result.andThen_ok, Sem.run_pure]
              have hH : H.put id (some (.arr (false && List.isEmpty ([] : List AV)) sz' (xs ++ []))) = H := Heap.put_same (by simpa using hg)
              rw [hH]
              exact done_pure hS hF hd rfl (x := .v _) hp rfl
            have hyl : 0 < ys.length := List.length_pos_iff.2 hy0
            by_cases hc0 : cap = 0
            · subst hc0
              obtain rfl : xs = [] := by simpa using k2
              have := grow (base := some ad) (sCap := 0) (xs := []) (olds := []) (id := id) (K := H.put id (some (.arr (false && ys.isEmpty) sz' ([] ++ ys)))) (fun x hx => by simp at hx) ⟨rfl, fun c hc => by simp [flat] at hc, fun i x y hx => by simp [flat] at hx⟩
                (by simp [Builtin.firstCells, loadCells, loadCellsFrom]) (by simpa using hyl) (by simpa using hmost) (by simp [Heap.put]) (fun i hi => by simp [Heap.put, hi]) rfl (Nat.le_refl _) hlt (by omega)
                (fun v p hp => by have := hvers v p hp; simp at this ⊢; exact ⟨this.1, by omega⟩)
              simpa using this
            obtain rfl : ad = ⟨b, o, none⟩ := by rcases ha.2 with h | h; omega; simpa using h
            by_cases hroom : xs.length + ys.length ≤ cap
            -- there is room
            · have hcell : ∀ k, k < news.length → ∃ u, w.cell? ⟨b, o + xs.length * sz' + k, none⟩ = some u ∧ w.frozen? ⟨b, o + xs.length * sz' + k, none⟩ = false := fun k hk => by
                have h1 : (xs.length + ys.length) * sz' ≤ cap * sz' := Nat.mul_le_mul_right _ hroom
                rw [Nat.add_mul] at h1
                obtain ⟨_, u, m2, m3, _⟩ := k4 (xs.length * sz' + k) (by omega)
                rw [← Nat.add_assoc] at m2 m3
                exact ⟨u, m2, m3⟩
              have hrun := run_app_room (C := C) (ty := ty) hu hx hsrc hi hsz hlen (hfirst w (fun _ => rfl)) (b := b) (o := o) (sLen := xs.length) (sCap := cap - 0) (by omega) (fun k hk => by obtain ⟨u, h, _⟩ := hcell k hk; rw [h]; rfl)
                (fun k hk => by obtain ⟨u, _, h⟩ := hcell k hk; exact h) hone
              have hW := Wr.mk' (w := w) (b := b) (o := o + xs.length * sz') (vs := news) (fun k hk => by obtain ⟨u, h, _⟩ := hcell k hk; rw [h]; rfl)
              obtain ⟨g', hchg, hv⟩ := chg_inplace hS h0 hg hpar (Nat.le_refl _) hroom (by omega) hysz hnews hyl hW
              have hsp : splice xs ys xs.length = xs ++ ys := by simp [splice]
              rw [hsp] at hchg hv
              simp only [Sem.run_bind, hrun, Result.andThen_ok, Sem.run_pure]
              have hbool : (false && ys.isEmpty) = false := rfl
              rw [hbool]
              refine done_of_chg hS hF hd hchg ?_
              have := VR.ms (C := C) (g := g') id (xs ++ ys).length 0 (xs ++ ys).length b o cap sz' ⟨b, o, none⟩ hv (by simp; omega) ⟨rfl, .inr (by simp)⟩
              simpa using this
            · obtain ⟨olds, ho1, ho2⟩ := arr_run hS h0 hg hpar
              have := grow (base := some ⟨b, o, none⟩) (sCap := cap) (xs := xs) (olds := olds) (id := id) (K := H.put id (some (.arr (false && ys.isEmpty) sz' (xs ++ ys)))) (fun x hx => by
                  obtain ⟨i, hi, rfl⟩ := List.mem_iff_getElem.1 hx
                  exact (k3 i _ (List.getElem?_eq_getElem hi)).1) ho1
                (ho2 w.drew (cells_drew w) cap) (by omega) hmost (by simp [Heap.put]) (fun i hi => by simp [Heap.put, hi]) rfl (Nat.le_refl _) hlt (by omega)
                (fun v p hp => by have := hvers v p hp; simp; exact ⟨this.1, by omega⟩)
              simpa using this
        -- over what stands behind
        · split at hr
          · rename_i hfit
            simp only [Option.some.injEq, Prod.mk.injEq] at hr
            obtain ⟨rfl, rfl⟩ := hr
            subst hver
            by_cases hy0 : ys = []
            · subst hy0
              have hn0 : news = [] := by simpa using hnl.symm
              subst hn0
              have hH : H.put id (some (.arr nl zz (xs.take (lo + len) ++ [] ++ xs.drop (lo + len + List.length ([] : List AV))))) = H := Heap.put_same (by simpa using hg)
              rw [hH]
              rcases ms_inv hp with ⟨sz', hl, _, rfl, rfl, hpar⟩ | ⟨b, o, cap, sz', ad, rfl, hpar, hlc, ha⟩
              · have hrun := run_app_none (C := C) (ty := ty) hu hx hsrc hi hsz hlen (hfirst w (fun _ => rfl)) (base := none) (Nat.le_refl 0)
                simp only [Sem.run_bind, hrun, Result.andThen_ok, Sem.run_pure]
                exact done_pure hS hF hd rfl (x := .v _) hp rfl
              · have hrun := run_app_none (C := C) (ty := ty) hu hx hsrc hi hsz hlen (hfirst w (fun _ => rfl)) (base := some ad) (sLen := len) (sCap := cap - lo) (by omega)
                simp only [Sem.run_bind, hrun, Result.andThen_ok, Sem.run_pure]
                exact done_pure hS hF hd rfl (x := .v _) hp rfl
            have hyl : 0 < ys.length := List.length_pos_iff.2 hy0
            rcases ms_inv hp with ⟨sz', hl, _, _, rfl, hpar⟩ | ⟨b, o, cap, sz', ad, rfl, hpar, hlc, ha⟩
            · omega
            · have h1' := h1
              rw [hpar] at h1'; simp at h1'; subst h1'
              simp only at h2 h3
              subst h2
              obtain ⟨k1, k2, k3, k4, k5⟩ := h3
              obtain ⟨rfl, _⟩ := k1
              obtain rfl : ad = ⟨b, o + lo * sz', none⟩ := ha.2.resolve_left (by omega)
              have hcell : ∀ k, k < news.length → ∃ u, w.cell? ⟨b, o + lo * sz' + len * sz' + k, none⟩ = some u ∧ w.frozen? ⟨b, o + lo * sz' + len * sz' + k, none⟩ = false := fun k hk => by
                have h1 : (lo + len + ys.length) * sz' ≤ cap * sz' := Nat.mul_le_mul_right _ (by omega)
                rw [Nat.add_mul, Nat.add_mul] at h1
                obtain ⟨_, u, m2, m3, _⟩ := k4 (lo * sz' + len * sz' + k) (by omega)
                rw [show o + (lo * sz' + len * sz' + k) = o + lo * sz' + len * sz' + k by omega] at m2 m3
                exact ⟨u, m2, m3⟩
              have hrun := run_app_room (C := C) (ty := ty) hu hx hsrc hi hsz hlen (hfirst w (fun _ => rfl)) (b := b) (o := o + lo * sz') (sLen := len) (sCap := cap - lo) (by omega) (fun k hk => by obtain ⟨u, h, _⟩ := hcell k hk; rw [h]; rfl)
                (fun k hk => by obtain ⟨u, _, h⟩ := hcell k hk; exact h) hone
              have hW := Wr.mk' (w := w) (b := b) (o := o + lo * sz' + len * sz') (vs := news) (fun k hk => by obtain ⟨u, h, _⟩ := hcell k hk; rw [h]; rfl)
              have hpos : o + lo * sz' + len * sz' = o + (lo + len) * sz' := by rw [Nat.add_mul]; omega
              rw [hpos] at hW hrun
              obtain ⟨g', hchg, hv⟩ := chg_inplace hS h0 hg hpar (s := lo + len) (by omega) (by omega) (by omega) hysz hnews hyl hW
              have hsl : (splice xs ys (lo + len)).length = xs.length := by rw [splice_len (by omega)]; omega
              rw [hsl] at hv
              simp only [Sem.run_bind, hrun, Result.andThen_ok, Sem.run_pure]
              refine done_of_chg hS hF hd hchg ?_
              exact VR.ms (C := C) (g := g') id xs.length lo (len + ys.length) b o cap sz' ⟨b, o + lo * sz', none⟩ hv (by omega) ⟨rfl, .inr rfl⟩
          · simp at hr
      · simp at hr
    · simp at hr
  -- onto nil
  · split at hr
    · rename_i hmost
      simp only [Option.some.injEq, Prod.mk.injEq] at hr
      obtain ⟨rfl, rfl⟩ := hr
      cases hp
      by_cases hy0 : ys = []
      · subst hy0
        have hn0 : news = [] := by simpa using hnl.symm
        subst hn0
        have hrun := run_app_none (C := C) (ty := ty) hu hx hsrc hi hsz hlen (hfirst w (fun _ => rfl)) (base := none) (Nat.le_refl 0)
        simp only [Sem.run_bind, hrun, Result.andThen_ok, Sem.run_pure]
        obtain ⟨g', hchg, hv⟩ := chg_nil hS sz
        exact done_of_chg hS hF hd hchg hv
      · have hyl : 0 < ys.length := List.length_pos_iff.2 hy0
        obtain ⟨hn1, hn2, hn3⟩ := hS.next H.next (Nat.le_refl _)
        have := grow (base := none) (sCap := 0) (xs := []) (olds := []) (id := H.next) (K := H.new (.arr ys.isEmpty sz ys)) (fun x hx => by simp at hx) ⟨rfl, fun c hc => by simp [flat] at hc, fun i x y hx => by simp [flat] at hx⟩
          (by simp [run_firstCells_none]) (by simpa using hyl) (by simpa using hmost) (by simp [Heap.new, hy0]) (fun i hi => by simp [Heap.new, hi]) rfl (by simp [Heap.new]) (by simp [Heap.new]) hS.ro
          (fun v p hp => by rw [hn3] at hp; cases hp)
        simpa using this
    · simp at hr
  -- onto an empty one
  · split at hr
    · rename_i hmost
      cases hp with
      | cap0 ad =>
        by_cases hy0 : ys = []
        · subst hy0
          simp only [List.isEmpty_nil, if_true, Option.some.injEq, Prod.mk.injEq] at hr
          obtain ⟨rfl, rfl⟩ := hr
          have hn0 : news = [] := by simpa using hnl.symm
          subst hn0
          have hrun := run_app_none (C := C) (ty := ty) hu hx hsrc hi hsz hlen (hfirst w (fun _ => rfl)) (base := some ad) (Nat.le_refl 0)
          simp only [Sem.run_bind, hrun, Result.andThen_ok, Sem.run_pure]
          exact done_pure hS hF hd rfl (x := .v .cap0) (.cap0 ad) rfl
        · have hyl : 0 < ys.length := List.length_pos_iff.2 hy0
          have hie : ys.isEmpty = false := by simpa using hy0
          rw [hie] at hr
          simp only [Bool.false_eq_true, if_false, Option.some.injEq, Prod.mk.injEq] at hr
          obtain ⟨rfl, rfl⟩ := hr
          obtain ⟨hn1, hn2, hn3⟩ := hS.next H.next (Nat.le_refl _)
          have := grow (base := some ad) (sCap := 0) (xs := []) (olds := []) (id := H.next) (K := H.new (.arr false sz ys)) (fun x hx => by simp at hx) ⟨rfl, fun c hc => by simp [flat] at hc, fun i x y hx => by simp [flat] at hx⟩
            (by simp [Builtin.firstCells, loadCells, loadCellsFrom]) (by simpa using hyl) (by simpa using hmost) (by simp [Heap.new]) (fun i hi => by simp [Heap.new, hi]) rfl (by simp [Heap.new]) (by simp [Heap.new]) hS.ro
            (fun v p hp => by rw [hn3] at hp; cases hp)
          simpa using this
    · simp at hr
  · simp at hr
end
end Ey

namespace Ey
open Go Go.RowKit

section
variable {C : Cx} {g : Gh} {own : Own} {B : Nat} {H : Heap} {w : World} {env : Env} {a : Act} {n : Nat} {L : List Nat}

def mksOK (P : Program) (t : TypeId) (sz : Nat) (z : AV) : Bool :=
  match P.underlying t with
  | some (.slice e) => zeroTy P e sz z && (match P.info? e with | some i => decide (i.bytes ≤ 65536) | none => false)
  | _ => false

theorem mks_done (hS : St C g own B H w) (hF : Fr C g own w env a.tmps n L) {d : Option Nat} (hd : dstOK n L d) {t : TypeId} {sz : Nat} {z : AV} (ht : mksOK C.P t sz z = true) {kd : IntKind} {k : Int} {v : Value} (hv : VR C g (.int kd k) v)
    (h0 : 0 ≤ k) (hk : k ≤ mostLen) :
    ∃ res, (do pure (Next.value (← Instr.makeSlice t v v)) : Sem Next).run C.P w = res ∧
      Done C g own B H w a n L d (setDst d (.v (.ms H.next k.toNat 0 k.toNat)) env) (H.new (.arr false sz (List.replicate k.toNat z))) res := by
  unfold mksOK at ht
  split at ht
  · rename_i e hu
    simp only [Bool.and_eq_true] at ht
    obtain ⟨hz, hb⟩ := ht
    obtain ⟨i, zv, hi, hsz, hpos, hzl, hiz, hzr⟩ := zeroTy_is hz g
    rw [hi] at hb
    simp only [decide_eq_true_eq] at hb
    cases hv
    have hm : (mostLen : Int) = 1073741824 := rfl
    have hbytes : (i.bytes : Int) * k ≤ 281474976710656 := by
      have h1 : (i.bytes : Int) * k ≤ 65536 * 1073741824 := Int.mul_le_mul (by omega) (by omega) h0 (by omega)
      omega
    have hrun := run_make (P := C.P) w t e i zv hu hi hiz kd kd k k h0 (Int.le_refl _) hbytes (by omega)
    refine ⟨_, rfl, ?_⟩
    simp only [Sem.run_bind, hrun, Result.andThen_ok, Sem.run_pure]
    have hcz := VR.cells hzr (.inl (by intro e; rw [e] at hzl; simp at hzl; omega))
    have hcs : zv.cells.size = sz := by have := hcz.len; simp at this; omega
    have hrow := zero_row hcz (by omega) k.toNat
    rw [hcs] at hrow
    have hall : ∀ x ∈ List.replicate k.toNat z, x.cells.length = sz := fun x hx => by rw [(List.mem_replicate.1 hx).2]; exact hzl
    have hmade : madeCells zv.cells (k.toNat * i.size) = (Array.range (k.toNat * sz)).map (zv.cells[· % sz]!) := by
      rw [hsz]
      simp [madeCells, hcs]
    rw [hmade]
    have hsize : ((Array.range (k.toNat * sz)).map (zv.cells[· % sz]!)).size = k.toNat * sz := by simp
    obtain ⟨g', hchg, hvr⟩ := done_arr (sz := sz) (cap := k.toNat) hS (New.alloc w (.cells ((Array.range (k.toNat * sz)).map (zv.cells[· % sz]!)) e)) (cell_new w _ e) (frozen_new w _ e) hpos hall (by simp) (by
      rw [List.take_of_length_le (by simp)]; exact hrow) hsize
    simp only [List.length_replicate] at hvr
    exact done_of_chg hS hF hd hchg hvr
  · simp at ht

theorem write_in (hS : St C g own B H w) {id sz : Nat} {nl : Bool} (h0 : 0 < sz) {xs : List AV} (hg : H.get id = some (.arr nl sz xs)) (hro : H.ro ≤ id) {lo len : Nat} (hfit : lo + len ≤ xs.length) {v : Value}
    (hv : VR C g (.ms id xs.length lo len) v) {ys : List AV} (hys : ∀ y ∈ ys, y.cells.length = sz) (hyl : ys.length ≤ len) {news : List Value} (hn : CR C g (flat ys) news) :
    (len = 0 ∧ (∃ ad cap, v = .slice ad 0 cap) ∧ H.put id (some (.arr nl sz (splice xs ys lo))) = H) ∨
    ∃ ad cap w', v = .slice (some ad) len cap ∧ (storeCells ad news).run C.P w = .ok () w' ∧ ∃ g', Chg C g own B H w g' own (H.put id (some (.arr nl sz (splice xs ys lo)))) w' id := by
  have hnl := hn.len
  rw [flat_len hys] at hnl
  have hone : ∀ u ∈ news, u.oneCell' = true := fun u hu => by
    obtain ⟨j, hj, rfl⟩ := List.mem_iff_getElem.1 hu
    have hj' : j < (flat ys).length := by rw [hn.len]; exact hj
    exact (hn.rel j _ _ (List.getElem?_eq_getElem hj') (List.getElem?_eq_getElem hj)).oneCell (hn.one _ (List.getElem_mem hj'))
  obtain ⟨⟨ph, h1, h2, h3⟩, hvers⟩ := hS.arr _ _ _ _ hg
  have hsame : ys = [] → H.put id (some (.arr nl sz (splice xs ys lo))) = H := fun e => by
    subst e
    have : splice xs [] lo = xs := by simp [splice]
    rw [this]; exact Heap.put_same hg
  rcases ms_inv hv with ⟨sz', hl, rfl, rfl, rfl, hpar⟩ | ⟨b, o, cap, sz', ad, rfl, hpar, hlc, ha⟩
  · have : ys = [] := by simpa using hyl
    exact .inl ⟨rfl, ⟨_, _, rfl⟩, hsame this⟩
  · by_cases hl0 : len = 0
    · subst hl0
      have : ys = [] := by simpa using hyl
      exact .inl ⟨rfl, ⟨_, _, rfl⟩, hsame this⟩
    · rw [hpar] at h1; simp at h1; subst h1
      simp only at h2 h3
      subst h2
      obtain ⟨k1, k2, k3, k4, k5⟩ := h3
      obtain ⟨rfl, _⟩ := k1
      obtain rfl : ad = ⟨b, o + lo * sz', none⟩ := ha.2.resolve_left (by omega)
      by_cases hy0 : ys = []
      · have hn0 : news = [] := by rw [hy0] at hnl; simpa using hnl.symm
        subst hn0
        refine .inr ⟨_, _, w, rfl, by simp [storeCells], g, ?_⟩
        rw [hsame hy0]
        refine ⟨.refl _, fun _ _ _ _ => ⟨rfl, rfl, rfl⟩, fun _ _ _ _ _ hm => hm, fun b o v h => hS.imm b o v h, fun _ _ => rfl, fun _ => rfl, fun _ _ _ => rfl, fun _ _ => rfl, fun bl hb => ?_, rfl, Nat.le_refl _, get_lt hS hg, hro, fun b o => ?_, fun b o h => hS.base b o h, .refl _ _⟩
        · rw [hg] at hb; simp only [Option.some.injEq] at hb; subst hb
          exact hS.arr _ _ _ _ hg
        · exact hS.ext b o
      have hy1 : 0 < ys.length := List.length_pos_iff.2 hy0
      have hcell : ∀ k, k < news.length → ∃ u, w.cell? ⟨b, o + lo * sz' + k, none⟩ = some u ∧ w.frozen? ⟨b, o + lo * sz' + k, none⟩ = false := fun k hk => by
        have h1 : (lo + ys.length) * sz' ≤ cap * sz' := Nat.mul_le_mul_right _ (by omega)
        rw [Nat.add_mul] at h1
        obtain ⟨_, u, m2, m3, _⟩ := k4 (lo * sz' + k) (by omega)
        rw [← Nat.add_assoc] at m2 m3
        exact ⟨u, m2, m3⟩
      have hst := run_storeCells_cells (P := C.P) b (o + lo * sz') news 0 w (fun j hj => by obtain ⟨u, h, _⟩ := hcell j hj; simp only [Nat.add_zero]; rw [h]; rfl) (fun j hj => by obtain ⟨u, _, h⟩ := hcell j hj; exact h) hone
      simp only [Nat.add_zero] at hst
      have hW := Wr.mk' (w := w) (b := b) (o := o + lo * sz') (vs := news) (fun k hk => by obtain ⟨u, h, _⟩ := hcell k hk; rw [h]; rfl)
      obtain ⟨g', hchg, hv'⟩ := chg_inplace hS h0 hg hpar (s := lo) (by omega) (by omega) hro hys hn hy1 hW
      exact .inr ⟨_, _, _, rfl, hst, g', hchg⟩

theorem mkm_done (hS : St C g own B H w) (hF : Fr C g own w env a.tmps n L) {d : Option Nat} (hd : dstOK n L d) {t e : TypeId} (ht : C.P.underlying t = some (.slice e)) {sz m : Nat} {z : AV} (hz : zeroTy C.P e sz z = true) (hm : m * sz ≤ 2 ^ 24)
    {xs : List (Nat × Operand)} {ys : List (Nat × Opd)} (hp : partsMOK C xs ys = true) {qs : List (Nat × AV)} (hq : allParts env ys = some qs) {rs : List AV} (hr : mklAV (List.replicate m z) qs = some rs) :
    ∃ r, (do pure (Next.value (← Instr.buildSlice t m (xs.toArray.map fun (i, x) => (i, a.eval x)))) : Sem Next).run C.P w = r ∧ Done C g own B H w a n L d (setDst d (.v (.ms H.next rs.length 0 rs.length)) env) (H.new (.arr false sz rs)) r := by
  obtain ⟨i, v, hi, hsz, h0, hzl, hiz, hv⟩ := zeroTy_is hz g
  have hcz := VR.cells hv (.inl (by intro e; rw [e] at hzl; simp at hzl; omega))
  have hcs : v.cells.size = sz := by have := hcz.len; simp at this; omega
  have hrow := zero_row hcz (by omega) m
  rw [hcs] at hrow
  obtain ⟨h1, h2, cs, h3, h4⟩ := mkl_fill h0 (partsM_rel hF hp hq) (fun x hx => by rw [(List.mem_replicate.1 hx).2]; exact hzl) hrow hr
  have h2' : rs.length = m := by simpa using h2
  refine ⟨_, rfl, ?_⟩
  have hrun : (Instr.buildSlice t m (xs.toArray.map fun (i, x) => (i, a.eval x))).run C.P w = .ok (.slice (some ⟨w.heap.size, 0, none⟩) m m) (w.alloc (.cells cs e)) := by
    have hpl : (xs.toArray.map fun (i, x) => (i, a.eval x)).toList = xs.map fun (i, x) => (i, a.eval x) := by simp
    generalize (xs.toArray.map fun (i, x) => (i, a.eval x)) = pa at hpl
    have hlim : ¬ (16777216 < m * sz) := by omega
    by_cases hm0 : m * sz = 0
    · have hrz : ∀ f : Nat → Value, (Array.range (m * sz)).map f = #[] := fun f => by rw [hm0]; simp [Array.range_zero']
      rw [hrz] at h3
      simp only [Instr.buildSlice, Sem.run_bind, run_underlying ht, Go.sizeOf, typeInfo, run_program, Result.andThen_ok, hi, Sem.run_pure, hsz]
      simp [hm0, hpl, Array.range_zero', h3, newRow]
    · simp only [Instr.buildSlice, Sem.run_bind, run_underlying ht, Go.sizeOf, typeInfo, run_program, Result.andThen_ok, hi, Sem.run_pure, hsz]
      simp [hlim, hm0, hpl, zeroValue, typeInfo, hi, hiz, newRow]
      rw [hcs]
      have h3' : Instr.fill (fun i => some (i * sz, sz)) (Array.map (fun x => v.cells[x % sz]!) (Array.range (m * sz))) (List.map (fun x => (x.fst, a.eval x.snd)) xs) = some cs := h3
      rw [h3']
      simp
  simp only [Sem.run_bind, hrun, Result.andThen_ok, Sem.run_pure]
  have hlen := h4.len
  rw [flat_len h1] at hlen
  simp at hlen
  obtain ⟨g', hchg, hvr⟩ := done_arr (sz := sz) (cap := m) (xs := rs) hS (New.alloc w (.cells cs e)) (cell_new w _ e) (frozen_new w _ e) h0 h1 (by omega) (by
    rw [List.take_of_length_le (by simp; omega)]; exact h4) (by rw [← h2']; omega)
  rw [h2'] at hvr ⊢
  exact done_of_chg hS hF hd hchg hvr

def clrOK (P : Program) (t : TypeId) (sz : Nat) (z : AV) : Bool :=
  match P.underlying t with
  | some (.slice e) => zeroTy P e sz z
  | _ => false

theorem clr_done (hS : St C g own B H w) (hF : Fr C g own w env a.tmps n L) {d : Option Nat} (hd : dstOK n L d) {t ty : TypeId} {sz : Nat} {z : AV} (ht : clrOK C.P t sz z = true) {id ver lo len : Nat} {nl : Bool} {xs : List AV} {v : Value}
    (hv : VR C g (.ms id ver lo len) v) (hg : H.get id = some (.arr nl sz xs)) (hro : H.ro ≤ id) (hver : xs.length = ver) (hfit : lo + len ≤ ver) :
    ∃ res, (do pure (Next.value (← Builtin.clear_ #[t] ty #[v])) : Sem Next).run C.P w = res ∧
      Done C g own B H w a n L d (setDst d (.v (.tup [])) env) (H.put id (some (.arr nl sz (xs.take lo ++ List.replicate len z ++ xs.drop (lo + len))))) res := by
  unfold clrOK at ht
  split at ht
  · rename_i e hu
    obtain ⟨i, zv, hi, hsz, hpos, hzl, hiz, hzr⟩ := zeroTy_is ht g
    have hcz := VR.cells hzr (.inl (by intro e; rw [e] at hzl; simp at hzl; omega))
    have hcs : zv.cells.size = sz := by have := hcz.len; simp at this; omega
    have hrow := zero_row hcz (by omega) len
    have hall : ∀ x ∈ List.replicate len z, x.cells.length = sz := fun x hx => by rw [(List.mem_replicate.1 hx).2]; exact hzl
    subst hver
    have hsp : splice xs (List.replicate len z) lo = xs.take lo ++ List.replicate len z ++ xs.drop (lo + len) := by simp [splice]
    have htup : ∀ g', VR C g' (.tup []) (.tuple #[]) := fun g' => .tup [] #[] rfl (fun i x y h => by simp at h)
    refine ⟨_, rfl, ?_⟩
    rcases write_in hS hpos hg hro hfit hv hall (by simp) hrow with ⟨rfl, ⟨ad, cap, rfl⟩, hsame⟩ | ⟨ad, cap, w', rfl, hst, g', hchg⟩
    · rw [hsp] at hsame
      rw [hsame]
      have hrun : (Builtin.clear_ #[t] ty #[.slice ad 0 cap]).run C.P w = .ok (.tuple #[]) w := by
        cases ad <;> simp [Builtin.clear_, run_underlying hu]
      simp only [Sem.run_bind, hrun, Result.andThen_ok, Sem.run_pure]
      exact done_pure hS hF hd rfl (x := .v (.tup [])) (htup _) rfl
    · rw [hsp] at hchg
      have hrun : (Builtin.clear_ #[t] ty #[.slice (some ad) len cap]).run C.P w = .ok (.tuple #[]) w' := by
        have hz : (zeroValue e).run C.P w = .ok zv w := by simp [zeroValue, typeInfo, hi, hiz]
        have hst' : (storeCells ad (Builtin.zeroCells zv.cells len).toList).run C.P w = .ok () w' := hst
        by_cases hl0 : len = 0
        · subst hl0
          have : Builtin.zeroCells zv.cells 0 = #[] := by simp [Builtin.zeroCells, Array.range_zero']
          rw [this] at hst'
          simp [storeCells] at hst'
          subst hst'
          simp [Builtin.clear_, run_underlying hu]
        · obtain ⟨k, rfl⟩ : ∃ k, len = k + 1 := ⟨len - 1, by omega⟩
          simp [Builtin.clear_, run_underlying hu, hz, hst']
      simp only [Sem.run_bind, hrun, Result.andThen_ok, Sem.run_pure]
      exact done_of_chg hS hF hd hchg (htup _)
  · cases ht

def apzOK (P : Program) (t tx : TypeId) (sz : Nat) (z : AV) : Bool :=
  match P.underlying t, P.underlying tx with
  | some (.slice e), some (.int _) => zeroTy P e sz z && (match P.info? e with | some i => decide (i.bytes ≤ 65536) | none => false)
  | _, _ => false

theorem apz_done (hS : St C g own B H w) (hF : Fr C g own w env a.tmps n L) {d : Option Nat} (hd : dstOK n L d) {t tx ty : TypeId} {sz : Nat} {z : AV} (ht : apzOK C.P t tx sz z = true) {p : AV} {vp vq : Value} (hp : VR C g p vp) (hpn : p = .list true []) {k : Int} (hq : VR C g (.int .i64 k) vq)
    (h1 : 1 ≤ k) (hk : k ≤ mostLen) :
    ∃ res, (do pure (Next.value (← Builtin.append_ #[t, tx] ty #[vp, vq])) : Sem Next).run C.P w = res ∧
      Done C g own B H w a n L d (setDst d (.v (.ms H.next k.toNat 0 k.toNat)) env) (H.new (.arr false sz (List.replicate k.toNat z))) res := by
  subst hpn
  unfold apzOK at ht
  split at ht
  · rename_i e kd hu hx
    simp only [Bool.and_eq_true] at ht
    obtain ⟨hz, hb⟩ := ht
    obtain ⟨i, zv, hi, hsz, hpos, hzl, hiz, hzr⟩ := zeroTy_is hz g
    rw [hi] at hb
    simp only [decide_eq_true_eq] at hb
    cases hq
    cases hp
    obtain ⟨m, rfl⟩ : ∃ m : Nat, k = m := ⟨k.toNat, by omega⟩
    have hm : (mostLen : Int) = 1073741824 := rfl
    have hw : IntKind.i64.wrap (m : Int) = m := IntWalk.i64_in _ (by omega)
    have h48 : ¬ (281474976710656 < (m : Int) * i.bytes) := by
      have h1 : (m : Int) * i.bytes ≤ 1073741824 * 65536 := Int.mul_le_mul (by omega) (by omega) (by omega) (by omega)
      omega
    have hne : ¬ m = 0 := by omega
    have h63 : ¬ (9223372036854775807 < (m : Int)) := by omega
    have hneg : ¬ ((m : Int) < 0) := by omega
    have h48' : ¬ (281474976710656 < Builtin.nextslicecap m 0 * i.bytes) := by
      have h1 := nextslicecap_le (need := m) (old := 0) (by omega)
      have : Builtin.nextslicecap m 0 * i.bytes ≤ (2 * m) * 65536 := Nat.mul_le_mul h1 hb
      omega
    have hcz := VR.cells hzr (.inl (by intro e; rw [e] at hzl; simp at hzl; omega))
    have hcs : zv.cells.size = sz := by have := hcz.len; simp at this; omega
    have hmsz : ¬ (m * i.size = 0) := by rw [hsz]; have := Nat.mul_pos (show 0 < m by omega) hpos; omega
    have hrun : (Builtin.append_ #[t, tx] ty #[.slice none 0 0, .int .i64 m]).run C.P w = .ok (.slice (some ⟨w.heap.size, 0, none⟩) m (grownCap w m 0 e))
        (w.drew.alloc (.cells (Builtin.zeroCells zv.cells m ++ Builtin.zeroCells zv.cells (grownCap w m 0 e - m)) e)) := by
      simp [Builtin.append_, run_underlying hu, run_underlying hx, Go.sizeOf, typeInfo, zeroValue, hi, hiz, hne, h63, h48, h48', hneg, hw, asInt, asIntOf, hmsz, Question.forced, newRow, grownCap, run_firstCells_none]
    refine ⟨_, rfl, ?_⟩
    simp only [Sem.run_bind, hrun, Result.andThen_ok, Sem.run_pure]
    have hrow : CR C g (flat (List.replicate m z)) (Builtin.zeroCells zv.cells m).toList := zero_row hcz (by omega) m
    have hall : ∀ x ∈ List.replicate m z, x.cells.length = sz := fun x hx => by rw [(List.mem_replicate.1 hx).2]; exact hzl
    have hge := le_grownCap w m 0 e
    obtain ⟨q1, q2, q3⟩ := moved_row (C := C) (g := g) (xs := []) (ys := List.replicate m z) (sz := sz) (olds := []) (fun x hx => by simp at hx) hall ⟨rfl, fun c hc => by simp [flat] at hc, fun i x y hx => by simp [flat] at hx⟩ hrow hcs (nc := grownCap w m 0 e) (by simpa using hge)
    simp only [List.nil_append, List.length_nil, List.length_replicate, Nat.zero_add] at q1 q2 q3
    have hzc : (([] : List Value).toArray ++ (Builtin.zeroCells zv.cells m).toList.toArray ++ Builtin.zeroCells zv.cells (grownCap w m 0 e - m)) = Builtin.zeroCells zv.cells m ++ Builtin.zeroCells zv.cells (grownCap w m 0 e - m) := by simp
    obtain ⟨g', hchg, hvr⟩ := done_arr (sz := sz) (cap := grownCap w m 0 e) (xs := List.replicate m z) hS (New.drew_alloc w (.cells (Builtin.zeroCells zv.cells m ++ Builtin.zeroCells zv.cells (grownCap w m 0 e - m)) e)) (cell_drew_new w _ e) (frozen_drew_new w _ e) hpos hall (by simpa using hge)
      (by rw [List.length_replicate, ← hzc]; exact q2) (by rw [← hzc]; exact q3)
    simp only [List.length_replicate] at hvr
    simp only [Int.toNat_natCast]
    exact done_of_chg hS hF hd hchg hvr
  · simp at ht

theorem Fr.same {g' : Gh} {own' : Own} {tmps : Array Value} (hF : Fr C g' own' w env tmps n L) {s : Nat} {x y : AV} (hs : env.get s = .v x) (hy : VR C g' y (tmOf tmps s)) : Fr C g' own' w ((s, .v y) :: env) tmps n L := by
  have hget : ∀ q, Env.get ((s, Sl.v y) :: env) q = if q = s then .v y else env.get q := fun q => rfl
  refine ⟨hF.size, fun q => ?_, fun q cs hq => ?_, hF.gl⟩
  · simp only [SlotOK, hget]
    by_cases hqs : q = s
    · subst hqs; rw [if_pos rfl]; exact hy
    · rw [if_neg hqs]
      have h := hF.slots q
      simp only [SlotOK] at h
      cases he : env.get q with
      | no => trivial
      | un => rw [he] at h; exact h
      | v z => rw [he] at h; exact h
      | lv cs => rw [he] at h; exact h
      | lp s' off =>
        rw [he] at h
        obtain ⟨cs, b, o, k1, k2, k3⟩ := h
        have hne : s' ≠ s := fun e => by rw [e, hs] at k1; cases k1
        exact ⟨cs, b, o, (if_neg hne).trans k1, k2, k3⟩
  · rw [hget] at hq
    by_cases hqs : q = s
    · rw [if_pos hqs] at hq; cases hq
    · rw [if_neg hqs] at hq; exact hF.lvs q cs hq

def Still (C : Cx) (g : Gh) (own : Own) (B : Nat) (H : Heap) (w : World) (tmps : Array Value) (n : Nat) (L : List Nat) (e' : Env) (H' : Heap) : Prop :=
  ∃ g' own', Ext g own B H w g' own' H' w ∧ St C g' own' B H' w ∧ Fr C g' own' w e' tmps n L

theorem thaw_still (hS : St C g own B H w) (hF : Fr C g own w env a.tmps n L) {s sz : Nat} (hs : env.get s = .v (.list true [])) :
    Still C g own B H w a.tmps n L ((s, .v (.ms H.next 0 0 0)) :: env) (H.new (.arr true sz [])) := by
  obtain ⟨g', hchg, hv⟩ := chg_nil hS sz
  refine ⟨g', own, hchg.toExt, hchg.st hS, (hchg.fr hF).same hs ?_⟩
  have h := hF.slots s
  simp only [SlotOK, hs] at h
  generalize tmOf a.tmps s = v at h ⊢
  cases h
  exact hv

theorem frz_core (hS : St C g own B H w) {id lo len : Nat} (hro : H.ro ≤ id) {nl : Bool} {sz : Nat} {xs : List AV} (hg : H.get id = some (.arr nl sz xs))
    (hle : lo + len ≤ xs.length) : ∃ g' own', Chg C g own B H w g' own' (H.put id none) w id ∧ ∀ v, VR C g (.ms id xs.length lo len) v → VR C g' (.list nl ((xs.drop lo).take len)) v := by
  have hlt := get_lt hS hg
  obtain ⟨⟨ph, h1, h2, h3⟩, hvers⟩ := hS.arr _ _ _ _ hg
  obtain ⟨base, cap, sz'⟩ := ph
  cases base with
  | none =>
    simp only at h2 h3
    obtain ⟨k1, rfl, _⟩ := h3
    subst k1
    obtain rfl : lo = 0 := by simp at hle; omega
    obtain rfl : len = 0 := by simpa using hle
    have hchg : Chg C g own B H w g own (H.put id none) w id := chg_wr (vs := []) (b := B) (o := 0) hS ⟨fun j v h => by simp at h, fun _ _ _ => rfl, fun _ => rfl, rfl, fun _ _ => .refl _ _, fun _ _ _ h => h⟩ (fun j hj => by simp at hj) hlt hro (.refl g) rfl rfl (fun _ _ _ => rfl) (fun bl h => by cases h) (.refl _ _)
    refine ⟨g, own, hchg, fun v h => ?_⟩
    rcases ms_inv h with ⟨_, _, _, _, rfl, _⟩ | ⟨b, o, cap, sz', ad, hv, hpar, hlc, ha⟩
    · simpa using VR.nil
    · rw [hpar] at h1; simp at h1
  | some bo =>
    obtain ⟨b, o⟩ := bo
    simp only at h2 h3
    subst h2
    obtain ⟨k1, k2, k3, k4, k5⟩ := h3
    obtain ⟨rfl, hspos⟩ := k1
    let inn : Nat → Nat → Prop := fun b' o' => b' = b ∧ o ≤ o' ∧ o' < o + xs.length * sz'
    have hdec : ∀ b' o', Decidable (inn b' o') := fun b' o' => inferInstanceAs (Decidable (_ ∧ _ ∧ _))
    let g' : Gh := { g with G := fun b' o' => if inn b' o' then w.cell? ⟨b', o', none⟩ else g.G b' o' }
    let own' : Own := fun b' o' => if inn b' o' then .imm else own b' o'
    have hin : ∀ b' o', inn b' o' → own b' o' = .heap id := fun b' o' ⟨e1, e2, e3⟩ => by
      subst e1
      have hmul : xs.length * sz' ≤ cap * sz' := Nat.mul_le_mul_right _ k2
      have := (k4 (o' - o) (by omega)).1
      rwa [show o + (o' - o) = o' by omega] at this
    have hle' : g.Le g' := ⟨fun b' o' v hh => by
      simp only [g']
      by_cases hi : inn b' o'
      · have := hin _ _ hi
        rw [(hS.imm _ _ _ hh).1] at this
        cases this
      · rw [if_neg hi]; exact hh, fun _ _ h => h, fun _ _ _ h => h⟩
    have hchg : Chg C g own B H w g' own' (H.put id none) w id := by
      refine ⟨hle', fun b' o' p1 p2 => ?_, fun _ _ _ _ _ hm => hm, fun b' o' v hh => ?_, fun _ _ => rfl, fun _ => rfl, fun _ _ _ => rfl, fun i hi => by simp [Heap.put, hi], fun bl hb => ?_, rfl, Nat.le_refl _, hlt, hro, fun b' o' => ?_, fun b' o' => ?_, .refl _ _⟩
      · refine ⟨?_, rfl, rfl⟩
        simp only [own']
        rw [if_neg (fun hi => p2 (hin _ _ hi))]
      · simp only [g', own'] at hh ⊢
        by_cases hi : inn b' o'
        · rw [if_pos hi] at hh ⊢; exact ⟨rfl, hh⟩
        · rw [if_neg hi] at hh ⊢; exact hS.imm _ _ _ hh
      · simp [Heap.put] at hb
      · simp only [own']
        by_cases hi : inn b' o'
        · exact .inr (hS.lt (o := o') (by rw [hin _ _ hi]; simp))
        · rw [if_neg hi]; exact hS.ext b' o'
      · simp only [own']
        by_cases hi : inn b' o'
        · intro _; exact hS.base b' o' ⟨id, .inl (hin _ _ hi)⟩
        · rw [if_neg hi]; exact hS.base b' o'
    refine ⟨g', own', hchg, fun v h => ?_⟩
    rcases ms_inv h with ⟨_, hl, _, _, hv, hpar⟩ | ⟨b1, o1, cap1, sz1, ad, rfl, hpar, hlc, ha⟩
    · rw [hl] at h1; rw [hpar] at h1; simp at h1
    rw [hpar] at h1
    simp only [Option.some.injEq, Ph.mk.injEq, Prod.mk.injEq] at h1
    obtain ⟨⟨e1, e2⟩, e3, e4⟩ := h1
    obtain rfl := e1.symm
    obtain rfl := e2.symm
    obtain rfl := e3.symm
    obtain rfl := e4.symm
    have hlen : ((xs.drop lo).take len).length = len := by simp; omega
    have hget : ∀ (i : Nat) (x : AV), ((xs.drop lo).take len)[i]? = some x → xs[lo + i]? = some x ∧ i < len := by
      intro i x hx
      have hi : i < len := by
        have := (List.getElem?_eq_some_iff.1 hx).1
        omega
      rw [List.getElem?_take, if_pos hi, List.getElem?_drop] at hx
      exact ⟨hx, hi⟩
    by_cases hl0 : len = 0
    · subst hl0
      have hnil : (xs.drop lo).take 0 = [] := by simp
      rw [hnil]
      obtain ⟨ab, ao, as⟩ := ad
      obtain rfl : as = none := ha.1
      exact .list [] ab ao (cap - lo) 0 (fun _ _ => undef) (by simp) (fun i x hx => by simp at hx) (fun i x hx => by simp at hx) (fun i j hi => by simp at hi) (fun i j x y hx => by simp at hx)
    · obtain rfl : ad = ⟨b, o + lo * sz', none⟩ := ha.2.resolve_left (by omega)
      have key := VR.list (C := C) (g := g') ((xs.drop lo).take len) b (o + lo * sz') (cap - lo) sz' (fun i j => (w.cell? ⟨b, o + lo * sz' + i * sz' + j, none⟩).getD undef) (by omega)
        (fun i x hx => k3 _ _ (hget i x hx).1) (fun i x hx e => by have := (k3 _ _ (hget i x hx).1).1; rw [e] at this; simp at this; omega) (fun i j hi hj => by
          rw [hlen] at hi
          have hx := List.getElem?_eq_getElem (show lo + i < xs.length by omega)
          have hjl : j < (xs[lo + i]).cells.length := by rw [(k3 _ _ hx).1]; exact hj
          obtain ⟨u, p1, _⟩ := k5 (lo + i) _ j _ hx (List.getElem?_eq_getElem hjl)
          rw [show o + (lo + i) * sz' + j = o + lo * sz' + i * sz' + j by rw [Nat.add_mul]; omega] at p1
          have hinn : inn b (o + lo * sz' + i * sz' + j) := by
            have h1 := idx_lt (i := lo + i) (n := xs.length) (c := xs.length) (by omega) (Nat.le_refl _) hj
            rw [Nat.add_mul] at h1
            exact ⟨rfl, by omega, by omega⟩
          simp only [g']
          rw [if_pos hinn, p1]
          rfl) (fun i j x y hx hy => by
          obtain ⟨hx', hi⟩ := hget i x hx
          obtain ⟨u, p1, p2⟩ := k5 (lo + i) x j y hx' hy
          rw [show o + (lo + i) * sz' + j = o + lo * sz' + i * sz' + j by rw [Nat.add_mul]; omega] at p1
          simp only [p1, Option.getD_some]
          exact p2.mono hle')
      rwa [hlen] at key

theorem fzo_core (hS : St C g own B H w) {id : Nat} (hro : H.ro ≤ id) {cs : List AV} (hg : H.get id = some (.obj cs)) :
    ∃ g' own', Chg C g own B H w g' own' (H.put id none) w id ∧ (∀ c ∈ cs, c.one = true) ∧ ∀ v, VR C g (.ptr id 0) v → ∃ (b o : Nat) (f : Nat → Value), v = .pointer (some ⟨b, o, none⟩) ∧ (∀ j, j < cs.length → g'.G b (o + j) = some (f j)) ∧ ∀ (j : Nat) (y : AV), cs[j]? = some y → VR C g' y (f j) := by
  have hlt := get_lt hS hg
  obtain ⟨b, o, h1, h2, h3⟩ := hS.obj _ _ hg
  let inn : Nat → Nat → Prop := fun b' o' => b' = b ∧ o ≤ o' ∧ o' < o + cs.length
  have hdec : ∀ b' o', Decidable (inn b' o') := fun b' o' => inferInstanceAs (Decidable (_ ∧ _ ∧ _))
  let g' : Gh := { g with G := fun b' o' => if inn b' o' then w.cell? ⟨b', o', none⟩ else g.G b' o' }
  let own' : Own := fun b' o' => if inn b' o' then .imm else own b' o'
  have hin : ∀ b' o', inn b' o' → own b' o' = .heap id := fun b' o' ⟨e1, e2, e3⟩ => by
    subst e1
    have := (h3 (o' - o) _ (List.getElem?_eq_getElem (show o' - o < cs.length by omega))).1
    rwa [show o + (o' - o) = o' by omega] at this
  have hle' : g.Le g' := ⟨fun b' o' v hh => by
    simp only [g']
    by_cases hi : inn b' o'
    · have := hin _ _ hi
      rw [(hS.imm _ _ _ hh).1] at this
      cases this
    · rw [if_neg hi]; exact hh, fun _ _ h => h, fun _ _ _ h => h⟩
  have hchg : Chg C g own B H w g' own' (H.put id none) w id := by
    refine ⟨hle', fun b' o' p1 p2 => ?_, fun _ _ _ _ _ hm => hm, fun b' o' v hh => ?_, fun _ _ => rfl, fun _ => rfl, fun _ _ _ => rfl, fun i hi => by simp [Heap.put, hi], fun bl hb => ?_, rfl, Nat.le_refl _, hlt, hro, fun b' o' => ?_, fun b' o' => ?_, .refl _ _⟩
    · refine ⟨?_, rfl, rfl⟩
      simp only [own']
      rw [if_neg (fun hi => p2 (hin _ _ hi))]
    · simp only [g', own'] at hh ⊢
      by_cases hi : inn b' o'
      · rw [if_pos hi] at hh ⊢; exact ⟨rfl, hh⟩
      · rw [if_neg hi] at hh ⊢; exact hS.imm _ _ _ hh
    · simp [Heap.put] at hb
    · simp only [own']
      by_cases hi : inn b' o'
      · exact .inr (hS.lt (o := o') (by rw [hin _ _ hi]; simp))
      · rw [if_neg hi]; exact hS.ext b' o'
    · simp only [own']
      by_cases hi : inn b' o'
      · intro _; exact hS.base b' o' ⟨id, .inl (hin _ _ hi)⟩
      · rw [if_neg hi]; exact hS.base b' o'
  refine ⟨g', own', hchg, h2, fun v h => ?_⟩
  cases h with
  | ptr _ _ b1 o1 hob =>
    rw [h1] at hob
    simp only [Option.some.injEq, Prod.mk.injEq] at hob
    obtain ⟨rfl, rfl⟩ := hob
    refine ⟨b, o, fun j => (w.cell? ⟨b, o + j, none⟩).getD undef, rfl, fun j hj => ?_, fun j y hy => ?_⟩
    · obtain ⟨_, u, p1, _⟩ := h3 j _ (List.getElem?_eq_getElem hj)
      simp only [g']
      rw [if_pos ⟨rfl, by omega, by omega⟩, p1]
      rfl
    · obtain ⟨_, u, p1, _, p2⟩ := h3 j y hy
      simp only [p1, Option.getD_some]
      exact p2.mono hle'

structure Mv (C : Cx) (B : Nat) (w : World) (g : Gh) (own : Own) (H : Heap) (g' : Gh) (own' : Own) (H' : Heap) : Prop where
  ext : Ext g own B H w g' own' H' w
  st : St C g' own' B H' w
  fr : ∀ {env : Env} {tmps : Array Value} {n : Nat} {L : List Nat}, Fr C g own w env tmps n L → Fr C g' own' w env tmps n L

theorem Mv.refl (hS : St C g own B H w) : Mv C B w g own H g own H := ⟨.refl _ _ _ _ _, hS, fun h => h⟩
theorem Mv.trans {g1 g2 : Gh} {own1 own2 : Own} {H1 H2 : Heap} (h : Mv C B w g own H g1 own1 H1) (k : Mv C B w g1 own1 H1 g2 own2 H2) : Mv C B w g own H g2 own2 H2 := ⟨h.ext.trans k.ext, k.st, fun f => k.fr (h.fr f)⟩

structure FzR (C : Cx) (g g' : Gh) (x x' : AV) : Prop where
  len : x'.cells.length = x.cells.length
  one : (∀ c ∈ x.cells, c.one = true) → ∀ c ∈ x'.cells, c.one = true
  cell : ∀ (j : Nat) (y y' : AV), x.cells[j]? = some y → x'.cells[j]? = some y' → ∀ v, VR C g y v → VR C g' y' v
  val : ∀ v, VR C g x v → VR C g' x' v

theorem FzR.refl {g g' : Gh} (h : g.Le g') (x : AV) : FzR C g g' x x := ⟨rfl, fun h => h, fun j y y' h1 h2 v hv => by rw [h1] at h2; cases h2; exact hv.mono h, fun v hv => hv.mono h⟩
theorem FzR.trans {g g1 g2 : Gh} {x y z : AV} (h : FzR C g g1 x y) (k : FzR C g1 g2 y z) : FzR C g g2 x z :=
  ⟨k.len.trans h.len, fun o => k.one (h.one o), fun j a b h1 h2 v hv => by
    have hj := (List.getElem?_eq_some_iff.1 h1).1
    have hj' : j < y.cells.length := by rw [h.len]; exact hj
    exact k.cell j _ b (List.getElem?_eq_getElem hj') h2 v (h.cell j a _ h1 (List.getElem?_eq_getElem hj') v hv), fun v hv => k.val v (h.val v hv)⟩

theorem FzR.ofOne {g g' : Gh} {x x' : AV} (h1 : x.one = true) (h2 : x'.one = true) (h : ∀ v, VR C g x v → VR C g' x' v) : FzR C g g' x x' := by
  refine ⟨by rw [AV.one_cells h1, AV.one_cells h2]; rfl, fun _ => by rw [AV.one_cells h2]; simpa using h2, fun j y y' hy hy' v hv => ?_, h⟩
  rw [AV.one_cells h1] at hy
  rw [AV.one_cells h2] at hy'
  cases j with
  | zero => simp at hy hy'; subst hy; subst hy'; exact h v hv
  | succ j => simp at hy

def FzL (C : Cx) (g g' : Gh) (xs ys : List AV) : Prop := ys.length = xs.length ∧ ∀ (i : Nat) (x y : AV), xs[i]? = some x → ys[i]? = some y → FzR C g g' x y

theorem fzAll_mv {f : Heap → AV → Option (AV × Heap)} (hf : ∀ {g : Gh} {own : Own} {H : Heap} {x x' : AV} {H' : Heap}, St C g own B H w → (∃ v, VR C g x v) → f H x = some (x', H') → ∃ g' own', Mv C B w g own H g' own' H' ∧ FzR C g g' x x') :
    ∀ {xs : List AV} {g : Gh} {own : Own} {H : Heap} {ys : List AV} {H' : Heap}, St C g own B H w → (∀ x ∈ xs, ∃ v, VR C g x v) → fzAll f H xs = some (ys, H') → ∃ g' own', Mv C B w g own H g' own' H' ∧ FzL C g g' xs ys
  | [], g, own, H, ys, H', hS, _, h => by
    simp only [fzAll, Option.some.injEq, Prod.mk.injEq] at h
    obtain ⟨rfl, rfl⟩ := h
    exact ⟨g, own, .refl hS, rfl, fun i x y hx => by simp at hx⟩
  | x :: xs, g, own, H, ys, H', hS, hex, h => by
    simp only [fzAll] at h
    split at h
    · cases h
    · rename_i y H1 h1
      split at h
      · cases h
      · rename_i zs H2 h2
        simp only [Option.some.injEq, Prod.mk.injEq] at h
        obtain ⟨rfl, rfl⟩ := h
        obtain ⟨g1, own1, m1, r1⟩ := hf hS (hex x (by simp)) h1
        obtain ⟨g2, own2, m2, r2, r3⟩ := fzAll_mv hf m1.st (fun z hz => by obtain ⟨v, hv⟩ := hex z (by simp [hz]); exact ⟨v, hv.mono m1.ext.le⟩) h2
        refine ⟨g2, own2, m1.trans m2, by simp [r2], fun i a b ha hb => ?_⟩
        cases i with
        | zero => simp at ha hb; subst ha; subst hb; exact r1.trans (.refl m2.ext.le _)
        | succ i => exact (FzR.refl m1.ext.le a).trans (r3 i a b (by simpa using ha) (by simpa using hb))

theorem list_fz {g g' : Gh} (hle : g.Le g') {nl : Bool} {xs ys : List AV} (h : FzL C g g' xs ys) {v : Value} (hv : VR C g (.list nl xs) v) : VR C g' (.list nl ys) v := by
  obtain ⟨h1, h2⟩ := h
  cases hv with
  | nil => obtain rfl : ys = [] := by simpa using h1
           exact .nil
  | list _ b o cap sz f hc hsz hne hG hvv =>
    have hget : ∀ (i : Nat) (y : AV), ys[i]? = some y → ∃ x, xs[i]? = some x ∧ FzR C g g' x y := fun i y hy => by
      have hi := (List.getElem?_eq_some_iff.1 hy).1
      have hx := List.getElem?_eq_getElem (show i < xs.length by omega)
      exact ⟨_, hx, h2 i _ y hx hy⟩
    rw [← h1] at hc
    have := VR.list (C := C) (g := g') ys b o cap sz f hc (fun i y hy => by
        obtain ⟨x, hx, hr⟩ := hget i y hy
        exact ⟨hr.len.trans (hsz i x hx).1, hr.one (hsz i x hx).2⟩) (fun i y hy e => by
        obtain ⟨x, hx, hr⟩ := hget i y hy
        have hl := hr.len
        rw [e] at hl
        exact hne i x hx (List.length_eq_zero_iff.1 hl.symm)) (fun i j hi hj => hle.G _ _ _ (hG i j (by omega) hj)) (fun i j y z hy hz => by
        obtain ⟨x, hx, hr⟩ := hget i y hy
        have hj := (List.getElem?_eq_some_iff.1 hz).1
        have hj' : j < x.cells.length := by rw [← hr.len]; exact hj
        have hxj := List.getElem?_eq_getElem hj'
        exact hr.cell j _ z hxj hz _ (hvv i j x _ hx hxj))
    rwa [h1] at this

theorem list_el {g : Gh} {nl : Bool} {zs : List AV} {v : Value} (h : VR C g (.list nl zs) v) {z : AV} (hz : z ∈ zs) : ∃ u, VR C g z u := by
  obtain ⟨k, hk, rfl⟩ := List.mem_iff_getElem.1 hz
  have hzk := List.getElem?_eq_getElem hk
  cases h with
  | nil => simp at hk
  | list _ b o cap sz2 ff hc hsz hne hG hvv =>
    by_cases ho : zs[k].one = true
    · exact ⟨_, hvv k 0 _ _ hzk (by rw [AV.one_cells ho]; rfl)⟩
    · obtain ⟨cs, hcs⟩ := AV.not_one (by simpa using ho) (hne k _ hzk)
      rw [hcs] at hzk ⊢
      refine ⟨.agg ((List.range cs.length).map fun j => ff k j).toArray, .agg cs _ (by simp) (fun c hc => (hsz k _ hzk).2 c hc) (fun j y z hy hz => ?_)⟩
      have hj := (List.getElem?_eq_some_iff.1 hy).1
      simp [hj] at hz
      subst hz
      exact hvv k j _ y hzk hy

theorem fzV_mv : ∀ {f : Fz} {g : Gh} {own : Own} {H : Heap} {x x' : AV} {H' : Heap}, St C g own B H w → (∃ v, VR C g x v) → fzV f H x = some (x', H') → ∃ g' own', Mv C B w g own H g' own' H' ∧ FzR C g g' x x'
  | .no, g, own, H, x, x', H', hS, _, h => by
    simp only [fzV, Option.some.injEq, Prod.mk.injEq] at h
    obtain ⟨rfl, rfl⟩ := h
    exact ⟨g, own, .refl hS, .refl (.refl g) x⟩
  | .sl f, g, own, H, x, x', H', hS, ⟨v0, hv0⟩, h => by
    have same : fzV (.sl f) H x = some (x, H) → ∃ g' own', Mv C B w g own H g' own' H' ∧ FzR C g g' x x' := fun e => by
      rw [e] at h
      simp only [Option.some.injEq, Prod.mk.injEq] at h
      obtain ⟨rfl, rfl⟩ := h
      exact ⟨g, own, .refl hS, .refl (.refl g) x⟩
    cases x
    case ms id ver lo len =>
      simp only [fzV] at h
      split at h
      · cases h
      rename_i hro
      split at h
      · rename_i nl sz xs hg
        split at h
        · rename_i hc
          obtain ⟨rfl, hle⟩ := hc
          obtain ⟨g1, own1, hchg, hv1⟩ := frz_core (len := len) (lo := lo) hS (by omega) hg hle
          have m1 : Mv C B w g own H g1 own1 (H.put id none) := ⟨hchg.toExt, hchg.st hS, fun hF => hchg.fr hF⟩
          have fin : ∀ {g2 own2 ys}, Mv C B w g1 own1 (H.put id none) g2 own2 H' → FzL C g1 g2 ((xs.drop lo).take len) ys → x' = .list nl ys → ∃ g' own', Mv C B w g own H g' own' H' ∧ FzR C g g' (.ms id xs.length lo len) x' := fun {g2 own2 ys} m2 r e => by
            subst e
            exact ⟨g2, own2, m1.trans m2, .ofOne rfl rfl fun v hv => list_fz m2.ext.le r (hv1 v hv)⟩
          have deep : ∀ {o}, o = fzAll (fzV f) (H.put id none) ((xs.drop lo).take len) → (match o with | some (ys, H') => some (AV.list nl ys, H') | none => none) = some (x', H') → ∃ g' own', Mv C B w g own H g' own' H' ∧ FzR C g g' (.ms id xs.length lo len) x' := fun {o} ho h => by
            split at h
            · rename_i ys H2
              simp only [Option.some.injEq, Prod.mk.injEq] at h
              obtain ⟨rfl, rfl⟩ := h
              have hl := hv1 v0 hv0
              obtain ⟨g2, own2, m2, r⟩ := fzAll_mv (f := fzV f) (fun hS hx hh => fzV_mv hS hx hh) m1.st (fun z hz => list_el hl hz) ho.symm
              exact fin m2 r rfl
            · cases h
          cases f
          case no =>
            simp only [Option.some.injEq, Prod.mk.injEq] at h
            obtain ⟨rfl, rfl⟩ := h
            exact fin (.refl m1.st) ⟨rfl, fun i x y hx hy => by rw [hx] at hy; cases hy; exact .refl (.refl g1) x⟩ rfl
          all_goals exact deep rfl h
        · cases h
      · cases h
    all_goals exact same rfl
  | .ag i f r, g, own, H, x, x', H', hS, ⟨v0, hv0⟩, h => by
    cases x
    case agg cs =>
      simp only [fzV] at h
      split at h
      · cases h
      rename_i c hc
      split at h
      · cases h
      rename_i c' H1 h1
      split at h
      · rename_i hone
        simp only [Bool.and_eq_true] at hone
        cases hv0 with
        | agg _ ws hl ho hvv =>
          have hi := (List.getElem?_eq_some_iff.1 hc).1
          obtain ⟨g1, own1, m1, r1⟩ := fzV_mv hS ⟨ws[i]'(by omega), hvv i c _ hc (by simp [show i < ws.size by omega])⟩ h1
          have key : FzR C g g1 (.agg cs) (.agg (cs.set i c')) := by
            have hcell : ∀ (j : Nat) (y y' : AV), cs[j]? = some y → (cs.set i c')[j]? = some y' → ∀ v, VR C g y v → VR C g1 y' v := fun j y y' hy hy' v hv => by
              by_cases hij : i = j
              · subst hij
                rw [hc] at hy; cases hy
                simp [hi] at hy'
                subst hy'
                exact r1.val v hv
              · rw [List.getElem?_set_ne hij, hy] at hy'
                cases hy'
                exact hv.mono m1.ext.le
            have hones : (∀ c ∈ cs, c.one = true) → ∀ d ∈ cs.set i c', d.one = true := fun ho d hd => by
              rcases List.mem_or_eq_of_mem_set hd with hd | rfl
              · exact ho d hd
              · exact hone.2
            refine ⟨by simp [AV.cells], hones, hcell, fun v hv => ?_⟩
            cases hv with
            | agg _ ws' hl' ho' hvv' =>
              exact .agg _ _ (by simpa using hl') (hones ho') (fun j y z hy hz => by
                have hj := (List.getElem?_eq_some_iff.1 hy).1
                simp at hj
                exact hcell j _ y (List.getElem?_eq_getElem hj) hy z (hvv' j _ z (List.getElem?_eq_getElem hj) hz))
          obtain ⟨g2, own2, m2, r2⟩ := fzV_mv m1.st ⟨.agg ws, key.val _ (.agg _ ws hl ho hvv)⟩ h
          exact ⟨g2, own2, m1.trans m2, key.trans r2⟩
      · cases h
    all_goals cases h
  | .pt f, g, own, H, x, x', H', hS, ⟨v0, hv0⟩, h => by
    have same : fzV (.pt f) H x = some (x, H) → ∃ g' own', Mv C B w g own H g' own' H' ∧ FzR C g g' x x' := fun e => by
      rw [e] at h
      simp only [Option.some.injEq, Prod.mk.injEq] at h
      obtain ⟨rfl, rfl⟩ := h
      exact ⟨g, own, .refl hS, .refl (.refl g) x⟩
    cases x
    case ptr id off =>
      simp only [fzV] at h
      split at h
      · cases h
      rename_i hro
      split at h
      · rename_i hoff
        subst hoff
        split at h
        · rename_i cs hg
          split at h
          · cases h
          rename_i cs c0 cs0
          split at h
          · rename_i y H2 hy
            simp only [Option.some.injEq, Prod.mk.injEq] at h
            obtain ⟨rfl, rfl⟩ := h
            obtain ⟨g1, own1, hchg, hone, hv1⟩ := fzo_core hS (by omega) hg
            have m1 : Mv C B w g own H g1 own1 (H.put id none) := ⟨hchg.toExt, hchg.st hS, fun hF => hchg.fr hF⟩
            obtain ⟨b, o, f0, rfl, hG, hvv⟩ := hv1 v0 hv0
            obtain ⟨g2, own2, m2, r⟩ := fzV_mv m1.st ⟨.agg ((List.range (c0 :: cs0).length).map f0).toArray, .agg _ _ (by simp) hone (fun j a z ha hz => by
              have hj := (List.getElem?_eq_some_iff.1 ha).1
              simp only [List.getElem?_toArray, List.getElem?_map, List.getElem?_range hj, Option.map_some, Option.some.injEq] at hz
              subst hz
              exact hvv j a ha)⟩ hy
            refine ⟨g2, own2, m1.trans m2, .ofOne rfl rfl fun v hv => ?_⟩
            obtain ⟨b, o, f1, rfl, hG1, hv1⟩ := hv1 v hv
            have hl : y.cells.length = (c0 :: cs0).length := r.len
            refine .imm y b o f1 (r.one hone) (fun e => by rw [e] at hl; simp at hl) (fun j hj => m2.ext.le.G _ _ _ (hG1 j (by omega))) (fun j z hz => ?_)
            have hj := (List.getElem?_eq_some_iff.1 hz).1
            have hj' : j < (c0 :: cs0).length := by omega
            exact r.cell j _ z (List.getElem?_eq_getElem hj') hz _ (hv1 j _ (List.getElem?_eq_getElem hj'))
          · cases h
        · cases h
      · cases h
    all_goals exact same rfl

theorem frz_slot (hS : St C g own B H w) (hF : Fr C g own w env a.tmps n L) {s : Nat} {x y : AV} (hs : env.get s = .v x) {f : Fz} {H' : Heap} (h : fzV f H x = some (y, H')) : Still C g own B H w a.tmps n L ((s, .v y) :: env) H' := by
  have hx := hF.slots s
  simp only [SlotOK, hs] at hx
  obtain ⟨g', own', m, r⟩ := fzV_mv hS ⟨_, hx⟩ h
  exact ⟨g', own', m.ext, m.st, (m.fr hF).same hs (r.val _ hx)⟩

theorem frz_lv (hS : St C g own B H w) (hF : Fr C g own w env a.tmps n L) {s : Nat} {cs ds : List AV} (hs : env.get s = .lv cs) {f : Fz} {H' : Heap} (h : fzV f H (.agg cs) = some (.agg ds, H')) : Still C g own B H w a.tmps n L ((s, .lv ds) :: env) H' := by
  have hx := hF.slots s
  simp only [SlotOK, hs] at hx
  obtain ⟨b, o, h1, h2, h3⟩ := hx
  have hvs : ∃ vs : List Value, vs.length = cs.length ∧ ∀ j v, vs[j]? = some v → w.cell? ⟨b, o + j, none⟩ = some v ∧ ∀ y, cs[j]? = some y → VR C g y v :=
    gather_cells (w := w) (b := b) (o := o) (m := cs.length) (p := fun k v => ∀ y, cs[k]? = some y → VR C g y v) (fun k hk => by
      obtain ⟨_, v, k2, _, k4⟩ := h3 k _ (List.getElem?_eq_getElem hk)
      exact ⟨v, k2, fun y hy => by rw [List.getElem?_eq_getElem hk] at hy; cases hy; exact k4⟩)
  obtain ⟨vs, hl, hv⟩ := hvs
  obtain ⟨g', own', m, r⟩ := fzV_mv hS ⟨.agg vs.toArray, .agg cs _ (by simp [hl]) h2 (fun i x y hx hy => (hv i y (by simpa using hy)).2 x hx)⟩ h
  refine ⟨g', own', m.ext, m.st, ?_⟩
  have hF' := m.fr hF
  -- what the cells hold, as the new state knows it
  have hx' := hF'.slots s
  simp only [SlotOK, hs] at hx'
  have hget : ∀ q, Env.get ((s, Sl.lv ds) :: env) q = if q = s then .lv ds else env.get q := fun q => rfl
  have hlen : ds.length = cs.length := r.len
  refine ⟨hF'.size, fun q => ?_, fun q cs' hq => ?_, hF'.gl⟩
  · simp only [SlotOK, hget]
    by_cases hqs : q = s
    · subst hqs
      rw [if_pos rfl]
      obtain ⟨b', o', p1, p2, p3⟩ := hx'
      rw [h1] at p1
      simp only [Value.pointer.injEq, Option.some.injEq, Addr.mk.injEq, and_true] at p1
      obtain ⟨rfl, rfl⟩ := p1
      refine ⟨b, o, h1, r.one h2, fun j y' hj' => ?_⟩
      have hj := (List.getElem?_eq_some_iff.1 hj').1
      have hcs := List.getElem?_eq_getElem (show j < cs.length by omega)
      obtain ⟨k1, v, k2, k3, _⟩ := p3 j _ hcs
      obtain ⟨_, v0, q2, _, q4⟩ := h3 j _ hcs
      rw [k2] at q2; cases q2
      exact ⟨k1, v, k2, k3, r.cell j _ y' hcs hj' v q4⟩
    · rw [if_neg hqs]
      have h := hF'.slots q
      simp only [SlotOK] at h
      cases he : env.get q with
      | no => trivial
      | un => rw [he] at h; exact h
      | v z => rw [he] at h; exact h
      | lv cs => rw [he] at h; exact h
      | lp s' off =>
        rw [he] at h
        obtain ⟨cs', b, o, k1, k2, k3⟩ := h
        by_cases hss : s' = s
        · subst hss
          exact ⟨ds, b, o, if_pos rfl, k2, k3⟩
        · exact ⟨cs', b, o, (if_neg hss).trans k1, k2, k3⟩
  · rw [hget] at hq
    by_cases hqs : q = s
    · subst hqs; exact hF'.lvs q cs hs
    · rw [if_neg hqs] at hq; exact hF'.lvs q cs' hq
end
end Ey

namespace Ey
open Go Go.RowKit Go.ChangeMaps

def keyTyOK (P : Program) (n : Nat) (t : TypeId) : Bool :=
  match P.underlying t with
  | some (.int _) => n == 0
  | some (.struct fs) => decide (0 < n) && !P.stoodInHeld t && fieldsFlat P 0 fs.toList (List.replicate n .i)
  | some (.array m e) => decide (0 < n) && m == n && bkOK P e .i
  | _ => false

def mapTyOK (P : Program) (n : Nat) (t : TypeId) : Bool :=
  match P.underlying t with
  | some (.map k _) => keyTyOK P n k
  | _ => false

section
variable {C : Cx} {g : Gh} {own : Own} {B : Nat} {H : Heap} {w : World} {env : Env} {a : Act} {n : Nat} {L : List Nat}

theorem keyOK_cases {n : Nat} {x : AV} (h : keyOK n x = true) : (n = 0 ∧ ∃ k a, x = .int k a) ∨ (0 < n ∧ ∃ cs, x = .agg cs ∧ cs.length = n ∧ ∀ c ∈ cs, ∃ k a, c = .int k a) := by
  unfold keyOK at h
  split at h
  · exact .inl ⟨by simpa using h, _, _, rfl⟩
  · rename_i cs
    simp only [Bool.and_eq_true, beq_iff_eq, decide_eq_true_eq, List.all_eq_true] at h
    refine .inr ⟨h.1.2, cs, rfl, h.1.1, fun c hc => ?_⟩
    have := h.2 c hc
    split at this
    · exact ⟨_, _, rfl⟩
    · cases this
  · cases h

theorem bk_int {t : TypeId} (h : bkOK C.P t .i = true) : ∃ k, C.P.underlying t = some (.int k) := by
  simp only [bkOK, Bool.and_eq_true] at h
  obtain ⟨_, h⟩ := h
  split at h
  · rename_i h1 _; cases h1
  · rename_i k _ hu; exact ⟨k, hu⟩
  · rename_i h1 _; cases h1
  · cases h

theorem checkKey_int {t : TypeId} {k : IntKind} (hu : C.P.underlying t = some (.int k)) (em : Bool) (d : Nat) (q : IntKind) (a : Int) : (Instr.checkKey em (d + 1) t (.int q a)).run C.P w = .ok () w := by
  unfold Instr.checkKey
  simp [run_underlying hu]

theorem vr_int {x : AV} {v : Value} (h : VR C g x v) {k : IntKind} {a : Int} (hx : x = .int k a) : v = .int k a := by
  subst hx; cases h; rfl

theorem checkKey_run {n : Nat} {t : TypeId} (ht : keyTyOK C.P n t = true) {x : AV} (hx : keyOK n x = true) {v : Value} (hv : VR C g x v) (em : Bool) : (Instr.checkKey em 10000 t v).run C.P w = .ok () w := by
  unfold keyTyOK at ht
  rcases keyOK_cases hx with ⟨rfl, k, a, rfl⟩ | ⟨h0, cs, rfl, hl, hi⟩
  · cases hv
    split at ht
    · rename_i hu; exact checkKey_int hu em 9999 _ _
    · simp at ht
    · simp at ht
    · cases ht
  · obtain ⟨ws, rfl, hlw, h1, hvs⟩ := agg_inv hv
    split at ht
    · simp at ht; omega
    · rename_i fs hu
      simp only [Bool.and_eq_true, decide_eq_true_eq, Bool.not_eq_true'] at ht
      have key : ∀ (l : List Field) (m k : Nat), fieldsFlat C.P m l (List.replicate k .i) = true → m + k ≤ n → (forIn l PUnit.unit fun f (_ : PUnit) => (do
          if f.name ≠ "_" then Instr.checkKey em 9999 f.type (← Go.part f.type ws f.offset)
          pure (ForInStep.yield PUnit.unit) : Sem (ForInStep PUnit))).run C.P w = .ok PUnit.unit w := by
        intro l
        induction l with
        | nil => intro m k _ _; simp
        | cons f l ih =>
          intro m k hf hm
          cases k with
          | zero => simp [fieldsFlat] at hf
          | succ k =>
            simp only [List.replicate_succ, fieldsFlat, Bool.and_eq_true, bne_iff_ne, ne_eq, beq_iff_eq] at hf
            obtain ⟨⟨⟨hn, ho⟩, hb⟩, hf'⟩ := hf
            obtain ⟨q, hq⟩ := bk_int hb
            have hlt : m < cs.length := by omega
            obtain ⟨u, p1, p2⟩ := cell_part (w := w) hb hlw h1 hvs (List.getElem?_eq_getElem hlt)
            obtain ⟨k', a', hka⟩ := hi _ (List.getElem_mem hlt)
            have hu' := vr_int p2 hka
            subst hu'
            have p3 := checkKey_int (w := w) hq em 9998 k' a'
            simp only [List.forIn_cons, Sem.run_bind, hn, ne_eq, not_false_eq_true, if_true, Result.andThen_ok, ho, p1, p3, Sem.run_pure]
            exact ih (m + 1) k hf' (by omega)
      unfold Instr.checkKey
      simp only [Sem.run_bind, run_underlying hu, Result.andThen_ok]
      rw [← Array.forIn_toList]
      have := key fs.toList 0 n ht.2 (by omega)
      simp at this
      simp [this]
    · rename_i m e hu
      simp only [Bool.and_eq_true, decide_eq_true_eq, beq_iff_eq] at ht
      obtain ⟨⟨_, rfl⟩, hb⟩ := ht
      obtain ⟨q, hq⟩ := bk_int hb
      obtain ⟨i, hinf, hsz⟩ := (bk_ty hb).info
      unfold Instr.checkKey
      simp only [Sem.run_bind, run_underlying hu, Result.andThen_ok]
      simp only [Std.Legacy.Range.forIn_eq_forIn_range', Std.Legacy.Range.size, Nat.sub_zero, Nat.add_one_sub_one, Nat.div_one]
      have each : ∀ j ∈ List.range' 0 m, j < cs.length := fun j hj => by simp at hj; omega
      have hcell : C.P.cellsOf e = 1 := by simp [Program.cellsOf, hinf, hsz]
      generalize List.range' 0 m = is at each
      induction is with
      | nil => simp
      | cons j is ih =>
        have hlt := each j (by simp)
        obtain ⟨u, p1, p2⟩ := cell_part (w := w) hb hlw h1 hvs (List.getElem?_eq_getElem hlt)
        obtain ⟨k', a', hka⟩ := hi _ (List.getElem_mem hlt)
        have hu' := vr_int p2 hka
        subst hu'
        have p3 := checkKey_int (w := w) hq em 9998 k' a'
        simp only [List.forIn_cons, Sem.run_bind, run_sizeOf w hinf, hcell, Nat.mul_one, Result.andThen_ok, p1, p3, Sem.run_pure]
        exact ih fun y hy => each y (by simp [hy])
    · cases ht

theorem eqCells_i {xs ys : List AV} {r : Bool} (h : eqCells (List.replicate xs.length .i) xs ys = some r) : r = true → ys = xs := by
  induction xs generalizing ys with
  | nil => cases ys with
    | nil => exact fun _ => rfl
    | cons y ys => simp [eqCells] at h
  | cons x xs ih =>
    cases ys with
    | nil => simp [eqCells] at h
    | cons y ys =>
      simp only [List.length_cons, List.replicate_succ, eqCells] at h
      intro hr; subst hr
      split at h
      · rename_i he
        unfold eqCell at he
        split at he <;> try (cases he; done)
        all_goals (first | (rename_i hk; cases hk; done) | skip)
        split at he
        · rename_i hk
          simp only [Option.some.injEq, beq_iff_eq] at he
          rw [ih h rfl, hk, he]
        · cases he
      · cases h
      · cases h

theorem keyEq_true {x y : AV} (h : keyEq x y = some true) : y = x := by
  unfold keyEq at h
  split at h
  · split at h
    · rename_i hk; simp at h; rw [hk, h]
    · cases h
  · split at h
    · rw [eqCells_i h rfl]
    · cases h
  · cases h

theorem key_equal {n : Nat} {t : TypeId} (ht : keyTyOK C.P n t = true) {cs : List AV} (hx : keyOK n (.agg cs) = true) {y : AV} {r : Bool} (he : keyEq (.agg cs) y = some r) {u v : Value} (hu : VR C g (.agg cs) u) (hv : VR C g y v) : (Op.equal t u v).run C.P w = .ok r w := by
  rcases keyOK_cases hx with ⟨_, _, _, hh⟩ | ⟨h0, cs', hh, hl, hi⟩
  · cases hh
  cases hh
  unfold keyEq at he
  split at he
  · rename_i h1; cases h1
  · rename_i xs ds hxs
    cases hxs
    split at he
    · rename_i hlen
      rw [hl] at he hlen
      obtain ⟨xs, rfl, hl1, h1, hv1⟩ := agg_inv hu
      obtain ⟨ys, rfl, hl2, h2, hv2⟩ := agg_inv hv
      unfold keyTyOK at ht
      show (Op.equalIn (9999 + 1) t (.agg xs) (.agg ys)).run C.P w = .ok r w
      split at ht
      · simp at ht; omega
      · rename_i fs hf
        simp only [Bool.and_eq_true, decide_eq_true_eq, Bool.not_eq_true'] at ht
        have hfs : C.P.fieldsOf t = fs := by simp [Program.fieldsOf, hf]
        rw [run_equalIn_struct w 9999 t xs ys (by rw [hfs]; exact hf) ht.1.2, hfs]
        exact eqFields_run hl1 h1 hv1 hl2 h2 hv2 9998 ht.2 (by simpa using he)
      · rename_i m e hf
        simp only [Bool.and_eq_true, decide_eq_true_eq, beq_iff_eq] at ht
        obtain ⟨⟨_, rfl⟩, hb⟩ := ht
        obtain ⟨i, hinf, hsz⟩ := (bk_ty hb).info
        have hcell : C.P.cellsOf e = 1 := by simp [Program.cellsOf, hinf, hsz]
        rw [run_equalIn_array w 9999 xs ys hf hinf, hcell]
        have := eqItems_run (w := w) (ks := List.replicate m .i) (m := 0) (e := e) (r := r) hl1 h1 hv1 hl2 h2 hv2 9998 (by simp [hb]) (by simpa using he)
        simpa using this
      · cases ht
    · cases he
  · cases he

def FindR (C : Cx) (g : Gh) (kv : AV) (es : List (AV × AV)) (ms : List MapEntry) : Option (Nat × AV) → Option (Nat × Value) → Prop
  | none, none => True
  | some (i, x), some (j, v) => j = i ∧ VR C g x v ∧ ∃ m e, ms[i]? = some m ∧ es[i]? = some e ∧ v = m.val ∧ keyEq kv e.1 = some true
  | _, _ => False

def FindS (C : Cx) (g : Gh) (kv : AV) (es : List (AV × AV)) (ms : List MapEntry) (s : Nat) : Option (Nat × AV) → Option (Nat × Value) → Prop
  | none, none => True
  | some (i, x), some (j, v) => j = i ∧ s ≤ i ∧ VR C g x v ∧ ∃ m e, ms[i - s]? = some m ∧ es[i - s]? = some e ∧ v = m.val ∧ keyEq kv e.1 = some true
  | _, _ => False

theorem FindS.step {kv : AV} {e : AV × AV} {es : List (AV × AV)} {m : MapEntry} {ms : List MapEntry} {s : Nat} : ∀ {r : Option (Nat × AV)} {r' : Option (Nat × Value)}, FindS C g kv es ms (s + 1) r r' → FindS C g kv (e :: es) (m :: ms) s r r'
  | none, none, _ => trivial
  | some (i, x), some (j, v), ⟨p1, p2, p3, m', e', p4, p5, p6, p7⟩ => by
    have hi : i - s = (i - (s + 1)) + 1 := by omega
    exact ⟨p1, by omega, p3, m', e', by rw [hi]; simpa using p4, by rw [hi]; simpa using p5, p6, p7⟩
  | none, some _, h => h.elim
  | some _, none, h => h.elim

theorem FindS.fin {kv : AV} {es : List (AV × AV)} {ms : List MapEntry} : ∀ {r : Option (Nat × AV)} {r' : Option (Nat × Value)}, FindS C g kv es ms 0 r r' → FindR C g kv es ms r r'
  | none, none, _ => trivial
  | some (_, _), some (_, _), ⟨p1, _, p3, m', e', p4, p5, p6, p7⟩ => ⟨p1, p3, m', e', p4, p5, p6, p7⟩
  | none, some _, h => h.elim
  | some _, none, h => h.elim

theorem findNow_run {k : IntKind} {q : IntKind} {c : Int} : ∀ (es : List (AV × AV)) (ms : List MapEntry) (s : Nat), es.length = ms.length →
    (∀ (i : Nat) (x : AV × AV) (m : MapEntry), es[i]? = some x → ms[i]? = some m → VR C g x.1 m.key ∧ VR C g x.2 m.val) → ∀ {r}, mpFind (.int q c) es s = some r →
    ∃ r', Instr.findNow (.int k) (.int q c) ms s = some r' ∧ FindS C g (.int q c) es ms s r r'
  | [], [], s, _, _, r, h => by
    simp only [mpFind, Option.some.injEq] at h
    subst h
    exact ⟨none, rfl, trivial⟩
  | [], _ :: _, _, h, _, _, _ => by simp at h
  | _ :: _, [], _, h, _, _, _ => by simp at h
  | e :: es, m :: ms, s, hl, hr, r, h => by
    obtain ⟨h1, h2⟩ := hr 0 e m rfl rfl
    simp only [mpFind] at h
    have hr' : ∀ (i : Nat) (x : AV × AV) (m : MapEntry), es[i]? = some x → ms[i]? = some m → VR C g x.1 m.key ∧ VR C g x.2 m.val := fun i x m' hx hm => hr (i + 1) x m' (by simpa using hx) (by simpa using hm)
    cases hk : keyEq (.int q c) e.1 with
    | none => rw [hk] at h; cases h
    | some b =>
      rw [hk] at h
      have hsn : Instr.sameNow (.int k) (.int q c) m.key = some b := by
        unfold keyEq at hk
        split at hk
        · rename_i k1 a1 k2 b1 e1 e2
          cases e1
          rw [e2] at h1
          rw [vr_int h1 rfl]
          simpa [Instr.sameNow] using hk
        · rename_i e1 _; cases e1
        · cases hk
      cases b with
      | true =>
        simp only [Option.some.injEq] at h
        subst h
        exact ⟨some (s, m.val), by simp [Instr.findNow, hsn], rfl, Nat.le_refl _, h2, m, e, by simp, by simp, rfl, hk⟩
      | false =>
        simp only at h
        obtain ⟨r', k1, k2⟩ := findNow_run (k := k) es ms (s + 1) (by simpa using hl) hr' h
        refine ⟨r', by simp [Instr.findNow, hsn, k1], ?_⟩
        exact k2.step

theorem findAsk_run {n : Nat} {t : TypeId} (ht : keyTyOK C.P n t = true) {cs : List AV} (hx : keyOK n (.agg cs) = true) {u : Value} (hu : VR C g (.agg cs) u) : ∀ (es : List (AV × AV)) (ms : List MapEntry) (s : Nat), es.length = ms.length →
    (∀ (i : Nat) (x : AV × AV) (m : MapEntry), es[i]? = some x → ms[i]? = some m → VR C g x.1 m.key ∧ VR C g x.2 m.val) → ∀ {r}, mpFind (.agg cs) es s = some r →
    ∃ r', (Instr.findAsking t u ms s).run C.P w = .ok r' w ∧ FindS C g (.agg cs) es ms s r r'
  | [], [], s, _, _, r, h => by
    simp only [mpFind, Option.some.injEq] at h
    subst h
    exact ⟨none, by simp [Instr.findAsking], trivial⟩
  | [], _ :: _, _, h, _, _, _ => by simp at h
  | _ :: _, [], _, h, _, _, _ => by simp at h
  | e :: es, m :: ms, s, hl, hr, r, h => by
    obtain ⟨h1, h2⟩ := hr 0 e m rfl rfl
    simp only [mpFind] at h
    have hr' : ∀ (i : Nat) (x : AV × AV) (m : MapEntry), es[i]? = some x → ms[i]? = some m → VR C g x.1 m.key ∧ VR C g x.2 m.val := fun i x m' hx hm => hr (i + 1) x m' (by simpa using hx) (by simpa using hm)
    cases hk : keyEq (.agg cs) e.1 with
    | none => rw [hk] at h; cases h
    | some b =>
      rw [hk] at h
      have hsn := key_equal (w := w) ht hx hk hu h1
      cases b with
      | true =>
        simp only [Option.some.injEq] at h
        subst h
        exact ⟨some (s, m.val), by simp [Instr.findAsking, hsn], rfl, Nat.le_refl _, h2, m, e, by simp, by simp, rfl, hk⟩
      | false =>
        simp only at h
        obtain ⟨r', k1, k2⟩ := findAsk_run ht hx hu es ms (s + 1) (by simpa using hl) hr' h
        refine ⟨r', by simp [Instr.findAsking, hsn, k1], ?_⟩
        exact k2.step

theorem find_run {n : Nat} {t : TypeId} (ht : keyTyOK C.P n t = true) {kv : AV} (hx : keyOK n kv = true) {u : Value} (hu : VR C g kv u) {es : List (AV × AV)} {ms : Array MapEntry} (hr : MapR C g es ms) {r : Option (Nat × AV)} (h : mpFind kv es 0 = some r) :
    ∃ r', (Instr.findKey t u ms.toList).run C.P w = .ok r' w ∧ FindR C g kv es ms.toList r r' := by
  have hlen : es.length = ms.toList.length := by simpa using hr.1
  rcases keyOK_cases hx with ⟨rfl, k, c, rfl⟩ | ⟨h0, cs, rfl, hl, hi⟩
  · cases hu
    have hk : ∃ q, C.P.underlying t = some (.int q) := by
      unfold keyTyOK at ht
      split at ht
      · exact ⟨_, by assumption⟩
      · simp at ht
      · simp at ht
      · cases ht
    obtain ⟨q, hq⟩ := hk
    obtain ⟨r', k1, k2⟩ := findNow_run (k := q) es ms.toList 0 hlen hr.2 h
    exact ⟨r', MapKept.run_findKey hq k1, k2.fin⟩
  · obtain ⟨r', k1, k2⟩ := findAsk_run (w := w) ht hx hu es ms.toList 0 hlen hr.2 h
    refine ⟨r', ?_, k2.fin⟩
    obtain ⟨ws, rfl, _⟩ := agg_inv hu
    have hd : ∃ d, C.P.underlying t = some d ∧ ((∃ fs, d = .struct fs) ∨ ∃ m e, d = .array m e) := by
      unfold keyTyOK at ht
      split at ht
      · simp at ht; omega
      · exact ⟨_, by assumption, .inl ⟨_, rfl⟩⟩
      · exact ⟨_, by assumption, .inr ⟨_, _, rfl⟩⟩
      · cases ht
    obtain ⟨d, hd1, hd2⟩ := hd
    cases hms : ms.toList with
    | nil =>
      rw [hms] at k1
      simp only [Instr.findAsking, Sem.run_pure, Result.ok.injEq] at k1
      obtain ⟨rfl, _⟩ := k1
      simp [Instr.findKey, run_underlying hd1, Instr.findNow]
    | cons m l =>
      rw [hms] at k1
      have : Instr.sameNow d (.agg ws) m.key = none := by
        rcases hd2 with ⟨fs, rfl⟩ | ⟨x, e, rfl⟩ <;> rfl
      simp [Instr.findKey, run_underlying hd1, Instr.findNow, this, k1]

theorem sameBits_int (n : Nat) (k : IntKind) (a : Int) : Instr.sameBits n (.int k a) (.int k a) = true := by simp [Instr.sameBits]

theorem stays_run {n : Nat} {kv : AV} (hx : keyOK n kv = true) {u v : Value} (hu : VR C g kv u) (hv : VR C g kv v) : (Instr.keyThatStays u v).run C.P w = .ok v w := by
  have hs : Instr.sameBits 10000 u v = true := by
    rcases keyOK_cases hx with ⟨_, k, c, rfl⟩ | ⟨h0, cs, rfl, hl, hi⟩
    · cases hu; cases hv; exact sameBits_int _ _ _
    · obtain ⟨us, rfl, h1, h2, h3⟩ := agg_inv hu
      obtain ⟨vs, rfl, k1, k2, k3⟩ := agg_inv hv
      show (us.size == vs.size && (us.toList.zip vs.toList).all fun p => Instr.sameBits 9999 p.1 p.2) = true
      simp only [Bool.and_eq_true, beq_iff_eq, List.all_eq_true]
      refine ⟨by omega, fun p hp => ?_⟩
      obtain ⟨i, hi', hpi⟩ := List.getElem_of_mem hp
      simp only [List.length_zip, Array.length_toList] at hi'
      rw [List.getElem_zip] at hpi
      have hci : i < cs.length := by omega
      obtain ⟨k, c, hkc⟩ := hi _ (List.getElem_mem hci)
      have e1 := vr_int (h3 i _ us[i] (List.getElem?_eq_getElem hci) (by simp)) hkc
      have e2 := vr_int (k3 i _ vs[i] (List.getElem?_eq_getElem hci) (by simp)) hkc
      subst hpi
      simp only [Array.getElem_toList, e1, e2]
      exact sameBits_int _ _ _
  simp [Instr.keyThatStays, hs]

theorem mp_inv {id : Nat} {v : Value} (h : VR C g (.mp id) v) : ∃ b, v = .map (some b) ∧ g.ob id = some (b, 0) := by
  cases h with
  | mp _ b h => exact ⟨b, rfl, h⟩

def lkV (ok : Bool) (z : AV) : Option (Nat × AV) → AV
  | some (_, x) => if ok then .tup [x, .bool true] else x
  | none => if ok then .tup [z, .bool false] else z

theorem mpl_sim (hS : St C g own B H w) {n : Nat} {t k e : TypeId} (hu : C.P.underlying t = some (.map k e)) (ht : keyTyOK C.P n k = true) {z : AV} {zv : Value} (hz : (zeroValue e).run C.P w = .ok zv w) (hzr : VR C g z zv) {id : Nat} {kv : AV} (hk : keyOK n kv = true) {es : List (AV × AV)} (hg : H.get id = some (.map es))
    {r : Option (Nat × AV)} (hf : mpFind kv es 0 = some r) {m u : Value} (hm : VR C g (.mp id) m) (huv : VR C g kv u) (ok : Bool) :
    ∃ v, (Instr.lookup t m u ok).run C.P w = .ok v w ∧ VR C g (lkV ok z r) v := by
  obtain ⟨b, rfl, hb⟩ := mp_inv hm
  obtain ⟨b', h1, h2, ms, c, h3, h4⟩ := hS.mp id es hg
  rw [hb] at h1
  simp only [Option.some.injEq, Prod.mk.injEq, and_true] at h1
  subst h1
  obtain ⟨r', k1, k2⟩ := find_run (w := w) ht hk huv h4 hf
  have hck := checkKey_run (w := w) ht hk huv ms.isEmpty
  have two : ∀ {x : AV} {v : Value} {y : Bool}, VR C g x v → VR C g (.tup [x, .bool y]) (.tuple #[v, .bool y]) := fun {x v y} h => by
    refine .tup _ _ rfl fun i p q hp hq => ?_
    match i with
    | 0 => simp at hp hq; subst hp; subst hq; exact h
    | 1 => simp at hp hq; subst hp; subst hq; exact .bool _
    | i + 2 => simp at hp
  match r, r', k2 with
  | none, none, _ =>
    refine ⟨if ok then .tuple #[zv, .bool false] else zv, ?_, ?_⟩
    · simp [Instr.lookup, run_underlying hu, MapKept.run_getObj_map h3, hck, k1, hz]
    · cases ok
      · exact hzr
      · exact two hzr
  | some (i, x), some (j, v), ⟨_, p2, _⟩ =>
    refine ⟨if ok then .tuple #[v, .bool true] else v, ?_, ?_⟩
    · simp [Instr.lookup, run_underlying hu, MapKept.run_getObj_map h3, hck, k1]
    · cases ok
      · exact p2
      · exact two p2

theorem chg_map (hS : St C g own B H w) {id b : Nat} {es es' : List (AV × AV)} (hg : H.get id = some (.map es)) (hro : H.ro ≤ id) (hob : g.ob id = some (b, 0)) {ms ms' : Array MapEntry} {c c' : Nat} (hb : w.heap[b]? = some (.map ms c)) (hr : MapR C g es' ms') (hown : own b 0 = .heap id) :
    Chg C g own B H w g own (H.put id (some (.map es'))) (setBlock w b (.map ms' c')) id := by
  have hlt := get_lt hS hg
  have hcell : ∀ b' o', (setBlock w b (.map ms' c')).cell? ⟨b', o', none⟩ = w.cell? ⟨b', o', none⟩ := fun b' o' => by
    unfold World.cell?
    by_cases e : b' = b
    · subst e; simp only; rw [heap_setBlock_same hb, hb]
    · simp only; rw [heap_setBlock_other hb _ e]
  have hsz : (setBlock w b (.map ms' c')).heap.size = w.heap.size := by simp [setBlock]
  refine ⟨.refl g, fun b' o' _ _ => ⟨rfl, hcell b' o', frozen?_setBlock hb _⟩, fun b' es2 c2 h1 h2 hm => ?_, fun b' o' v h => ?_, fun _ _ => rfl, fun _ => rfl, fun _ _ _ => rfl, fun i hi => by simp [Heap.put, hi], fun bl hbl => ?_, rfl, Nat.le_refl _, hlt, hro, fun b' o' => by rw [hsz]; exact hS.ext b' o', hS.base, ?_⟩
  · have hne : b' ≠ b := fun e => by subst e; exact h2 hown
    rw [heap_setBlock_other hb _ hne]; exact hm
  · obtain ⟨h1, h2⟩ := hS.imm b' o' v h
    exact ⟨h1, by rw [hcell]; exact h2⟩
  · simp only [Heap.put, if_true, Option.some.injEq] at hbl
    subst hbl
    exact ⟨b, hob, hown, ms', c', heap_setBlock_same hb _, hr⟩
  · have hB := hS.base b 0 ⟨id, .inl hown⟩
    exact ⟨rfl, rfl, rfl, by rw [hsz]; exact Nat.le_refl _, fun k hk => heap_setBlock_other hb _ (by omega)⟩

theorem mpu_done (hS : St C g own B H w) (hF : Fr C g own w env a.tmps n L) {d : Option Nat} (hd : d = none) {m : Nat} {t k e : TypeId} (hu : C.P.underlying t = some (.map k e)) (ht : keyTyOK C.P m k = true) {id : Nat} {kv x : AV} (hk : keyOK m kv = true) (hro : H.ro ≤ id) {es : List (AV × AV)} (hg : H.get id = some (.map es))
    {r : Option (Nat × AV)} (hf : mpFind kv es 0 = some r) {mv u v : Value} (hm : VR C g (.mp id) mv) (huv : VR C g kv u) (hv : VR C g x v) :
    ∃ res, (do Instr.mapUpdate t mv u v; pure Next.skip : Sem Next).run C.P w = res ∧
      Done C g own B H w a n L d (setDst d .un env) (H.put id (some (.map (match r with | some (i, _) => es.set i (kv, x) | none => es ++ [(kv, x)])))) res := by
  subst hd
  obtain ⟨b, rfl, hb⟩ := mp_inv hm
  obtain ⟨b', h1, h2, ms, c, h3, h4⟩ := hS.mp id es hg
  rw [hb] at h1
  simp only [Option.some.injEq, Prod.mk.injEq, and_true] at h1
  subst h1
  obtain ⟨r', k1, k2⟩ := find_run (w := w) ht hk huv h4 hf
  have hck := checkKey_run (w := w) ht hk huv false
  refine ⟨_, rfl, ?_⟩
  match r, r', k2 with
  | none, none, _ =>
    have hrun : (do Instr.mapUpdate t (.map (some b)) u v; pure Next.skip : Sem Next).run C.P w = .ok .skip (setBlock w b (.map (ms.push { key := u, val := v, born := c }) (c + 1))) := by
      simp [Instr.mapUpdate, run_underlying hu, MapKept.run_getObj_map h3, hck, k1, MapKept.run_setObj_map _ h3, setBlock]
    rw [hrun]
    have hr : MapR C g (es ++ [(kv, x)]) (ms.push { key := u, val := v, born := c }) := by
      refine ⟨by simp [h4.1], fun i p q hp hq => ?_⟩
      rw [Array.toList_push] at hq
      have hl : es.length = ms.toList.length := by simpa using h4.1
      by_cases hi : i < es.length
      · rw [List.getElem?_append_left hi] at hp
        rw [List.getElem?_append_left (by omega)] at hq
        exact h4.2 i p q hp hq
      · rw [List.getElem?_append_right (by omega)] at hp hq
        rw [← hl] at hq
        cases hj : i - es.length with
        | zero => rw [hj] at hp hq; simp at hp hq; subst hp; subst hq; exact ⟨huv, hv⟩
        | succ j => rw [hj] at hp; simp at hp
    have hchg := chg_map (c' := c + 1) hS hg hro hb h3 hr h2
    exact ⟨_, _, _, _, .inr ⟨rfl, rfl⟩, hchg.toExt, hchg.st hS, hchg.fr hF⟩
  | some (i, y), some (j, v0), ⟨hji, _, m0, e0, q1, q2, _, q4⟩ =>
    have hij := hji.symm
    subst hij
    have hkey := keyEq_true q4
    have hms : ms[i]? = some m0 := by simpa using q1
    obtain ⟨w1, w2⟩ := h4.2 i e0 m0 q2 q1
    rw [hkey] at w1
    have hst := stays_run (w := w) hk w1 huv
    have hrun : (do Instr.mapUpdate t (.map (some b)) u v; pure Next.skip : Sem Next).run C.P w = .ok .skip (setBlock w b (.map (ms.modify i fun e => { e with key := u, val := v }) c)) := by
      simp [Instr.mapUpdate, run_underlying hu, MapKept.run_getObj_map h3, hck, k1, hms, hst, MapKept.run_setObj_map _ h3, setBlock]
    rw [hrun]
    have hr : MapR C g (es.set i (kv, x)) (ms.modify i fun e => { e with key := u, val := v }) := by
      refine ⟨by simp [h4.1], fun l p q hp hq => ?_⟩
      rw [Array.getElem?_toList, Array.getElem?_modify] at hq
      rw [List.getElem?_set] at hp
      by_cases hl : i = l
      · subst hl
        have hil := (List.getElem?_eq_some_iff.1 q2).1
        rw [if_pos rfl, if_pos hil] at hp
        rw [if_pos rfl, hms] at hq
        simp at hp hq
        subst hp; subst hq
        exact ⟨huv, hv⟩
      · rw [if_neg hl] at hp hq
        exact h4.2 l p q hp (by rw [Array.getElem?_toList]; exact hq)
    have hchg := chg_map (c' := c) hS hg hro hb h3 hr h2
    exact ⟨_, _, _, _, .inr ⟨rfl, rfl⟩, hchg.toExt, hchg.st hS, hchg.fr hF⟩

theorem mkmp_done (hS : St C g own B H w) (hF : Fr C g own w env a.tmps n L) {d : Option Nat} (hd : dstOK n L d) :
    Done C g own B H w a n L d (setDst d (.v (.mp H.next)) env) (H.new (.map [])) (.ok (.value (.map (some w.heap.size))) (w.alloc (.map #[] 0))) := by
  have hN := New.alloc w (.map #[] 0)
  obtain ⟨hn1, hn2, hn3⟩ := hS.next H.next (Nat.le_refl _)
  let g' : Gh := { g with ob := fun id => if id = H.next then some (w.heap.size, 0) else g.ob id }
  have hle : g.Le g' := ⟨fun _ _ _ h => h, fun id p h => by
    by_cases e : id = H.next
    · subst e; rw [hn2] at h; cases h
    · simp only [g', if_neg e]; exact h, fun _ _ _ h => h⟩
  have hchg : Chg C g own B H w g' (growOwn own w.heap.size fun _ => .heap H.next) (H.new (.map [])) (w.alloc (.map #[] 0)) H.next := by
    refine ⟨hle, fun b o h1 h2 => ?_, fun b es c h1 h2 hm => by rw [hN.old b (hS.lt h1)]; exact hm, fun b o v h => ?_, fun id e => by simp [g', e], fun h => by omega, fun _ _ _ => rfl, fun id e => by simp [Heap.new, e], fun bl hb => ?_, rfl, by simp [Heap.new], by simp [Heap.new], hS.ro, fun b o => ?_, fun b o => ?_, hN.below hS.size⟩
    · have hlt := hS.lt h1
      exact ⟨growOwn_old hS _ h1, hN.cell hlt, hN.frozen hlt⟩
    · obtain ⟨k1, k2⟩ := hS.imm b o v h
      have hne : own b o ≠ .free := by rw [k1]; simp
      exact ⟨by rw [growOwn_old hS _ hne]; exact k1, by rw [hN.cell (hS.lt hne)]; exact k2⟩
    · simp only [Heap.new, if_true, Option.some.injEq] at hb
      subst hb
      exact ⟨w.heap.size, by simp [g'], by simp [growOwn], #[], 0, (MapKept.heap_alloc w _).1, rfl, fun i x m hx => by simp at hx⟩
    · simp only [growOwn]
      by_cases hb : b = w.heap.size
      · exact .inr (by have := hN.size; omega)
      · rw [if_neg hb]
        rcases hS.ext b o with h | h
        · exact .inl h
        · exact .inr (by have := hN.size; omega)
    · simp only [growOwn]
      by_cases hb : b = w.heap.size
      · intro _; have := hS.size; omega
      · rw [if_neg hb]; exact hS.base b o
  refine ⟨_, _, _, _, .inl rfl, hchg.toExt, hchg.st hS, (hchg.fr hF).put hd (x := .v (.mp H.next)) ?_ rfl⟩
  exact VR.mp (C := C) (g := g') H.next w.heap.size (by simp [g'])

end
end Ey

namespace Ey
open Go Go.RowKit

theorem loads_back {P : Program} {w : World} (a : Addr) : ∀ (l : List Value) (i : Nat) (acc : Array Value), (∀ j v, l[j]? = some v → (load (a.add (i + j))).run P w = .ok v w) →
    (loadCellsFrom a i l.length acc).run P w = .ok (acc ++ l.toArray) w
  | [], i, acc, _ => by simp [loadCellsFrom]
  | v :: l, i, acc, h => by
    have h0 := h 0 v rfl
    rw [Nat.add_zero] at h0
    rw [List.length_cons, loadCellsFrom, Sem.run_bind, h0, Result.andThen_ok, loads_back a l (i + 1) (acc.push v) (fun j u hj => by
      have := h (j + 1) u (by simpa using hj)
      rwa [show i + (j + 1) = i + 1 + j by omega] at this)]
    simp

theorem first_take {P : Program} {w : World} {sz k m : Nat} {v : Value} {news : List Value} (h : (Builtin.firstCells sz k v).run P w = .ok news.toArray w) (hl : news.length = k * sz) (hm : m ≤ k) (h1 : ∀ s, v = .string s → sz = 1) :
    (Builtin.firstCells sz m v).run P w = .ok (news.take (m * sz)).toArray w := by
  unfold Builtin.firstCells at h ⊢
  split at h
  · rename_i a _ _
    unfold loadCells at h ⊢
    obtain ⟨l, h2, h3, h4⟩ := loadCellsFrom_ok a _ _ _ _ _ h
    have : news = l := by
      have := congrArg Array.toList h3
      simpa using this
    subst this
    have hmk : m * sz ≤ k * sz := Nat.mul_le_mul_right _ hm
    have hlt : (news.take (m * sz)).length = m * sz := by rw [List.length_take]; omega
    have := loads_back (P := P) (w := w) a (news.take (m * sz)) 0 #[] (fun j v hj => h4 j v (by
      rw [List.getElem?_take] at hj
      split at hj
      · exact hj
      · cases hj))
    rw [hlt] at this
    simpa using this
  · simp only [Sem.run_pure, Result.ok.injEq, and_true] at h
    have : news = [] := by simpa using h.symm
    subst this
    simp
  · rename_i s
    obtain rfl := h1 s rfl
    simp only [Sem.run_pure, Result.ok.injEq, and_true] at h
    simp only [Sem.run_pure, Nat.mul_one]
    have hn : news = ((s.extract 0 k).data.map fun b => Value.int .u8 b.toNat).toList := by rw [h]
    rw [hn]
    congr 1
    apply Array.ext'
    simp [ByteArray.data_extract]
    rw [List.take_take, Nat.min_eq_left hm]
  · simp at h

section
variable {C : Cx} {g : Gh} {own : Own} {B : Nat} {H : Heap} {w : World} {env : Env} {a : Act} {n : Nat} {L : List Nat}

def cpyOK (P : Program) (t : TypeId) (sz : Nat) : Bool :=
  match P.underlying t with
  | some (.slice e) => (match P.info? e with | some i => i.size == sz && decide (0 < sz) | none => false)
  | _ => false

theorem cr_take {l : List AV} {vs : List Value} (h : CR C g l vs) (k : Nat) : CR C g (l.take k) (vs.take k) :=
  ⟨by have := h.len; simp [this], fun c hc => h.one c (List.mem_of_mem_take hc), fun i x y hx hy => by
    rw [List.getElem?_take] at hx hy
    split at hx
    · rename_i hk; rw [if_pos hk] at hy; exact h.rel i x y hx hy
    · cases hx⟩

theorem flat_take {sz : Nat} : ∀ {l : List AV} (_ : ∀ y ∈ l, y.cells.length = sz) (m : Nat), flat (l.take m) = (flat l).take (m * sz)
  | [], _, m => by simp [flat]
  | y :: l, h, 0 => by simp [flat]
  | y :: l, h, m + 1 => by
    have ih := flat_take (l := l) (fun z hz => h z (List.mem_cons_of_mem _ hz)) m
    have hy := h y List.mem_cons_self
    simp only [flat, List.take_succ_cons, List.flatMap_cons] at ih ⊢
    rw [ih, List.take_append, hy, show (m + 1) * sz - sz = m * sz by rw [Nat.add_mul]; omega]
    rw [List.take_of_length_le (l := y.cells) (by rw [hy, Nat.add_mul]; omega)]

theorem cpy_done (hS : St C g own B H w) (hF : Fr C g own w env a.tmps n L) {d : Option Nat} (hd : dstOK n L d) {t t2 ty : TypeId} {sz : Nat} (ht : cpyOK C.P t sz = true) {id ver lo len : Nat} {nl : Bool} {xs : List AV} {v v2 : Value} {y : AV}
    (hv : VR C g (.ms id ver lo len) v) (hv2 : VR C g y v2) {ys : List AV} (hy : elemsOf H sz y = some ys) (hg : H.get id = some (.arr nl sz xs)) (hro : H.ro ≤ id) (hver : xs.length = ver) (hfit : lo + len ≤ ver) :
    ∃ res, (do pure (Next.value (← Builtin.copy_ #[t, t2] ty #[v, v2])) : Sem Next).run C.P w = res ∧
      Done C g own B H w a n L d (setDst d (.v (i64 (min len ys.length : Nat))) env) (H.put id (some (.arr nl sz (xs.take lo ++ ys.take (min len ys.length) ++ xs.drop (lo + min len ys.length))))) res := by
  unfold cpyOK at ht
  split at ht
  · rename_i e hu
    cases hi : C.P.info? e with
    | none => rw [hi] at ht; cases ht
    | some i =>
      rw [hi] at ht
      simp only [Bool.and_eq_true, beq_iff_eq, decide_eq_true_eq] at ht
      obtain ⟨hsz, hpos⟩ := ht
      obtain ⟨k1, k2, news, k3, k4⟩ := elems_run hS hpos hv2 hy
      have k4 := k4 w (fun _ => rfl)
      have hnl := k3.len
      rw [flat_len k2] at hnl
      subst hver
      generalize hm : min len ys.length = m
      have hm1 : m ≤ ys.length := by omega
      have hm2 : m ≤ len := by omega
      have hstr : ∀ s, v2 = .string s → sz = 1 := fun s hs => by
        subst hs
        cases hv2 <;> simp [elemsOf] at hy
        exact hy.1
      have hfirst := first_take k4 hnl.symm hm1 hstr
      have hrow := cr_take k3 (m * sz)
      rw [← flat_take k2] at hrow
      have hall : ∀ x ∈ ys.take m, x.cells.length = sz := fun x hx => k2 x (List.mem_of_mem_take hx)
      have hlm : (ys.take m).length = m := by simp; omega
      have hsp : splice xs (ys.take m) lo = xs.take lo ++ ys.take m ++ xs.drop (lo + m) := by simp [splice, hlm]
      have hint : ∀ g', VR C g' (i64 (m : Nat)) (goInt m) := fun g' => .int _ _
      have hmin : Nat.min ys.length len = m := by rw [← hm]; exact Nat.min_comm _ _
      refine ⟨_, rfl, ?_⟩
      rcases write_in hS hpos hg hro hfit hv hall (by omega) hrow with ⟨rfl, ⟨ad, cap, rfl⟩, hsame⟩ | ⟨ad, cap, w', rfl, hst, g', hchg⟩
      · rw [hsp] at hsame
        obtain rfl : m = 0 := by omega
        rw [hsame]
        have hrun : (Builtin.copy_ #[t, t2] ty #[.slice ad 0 cap, v2]).run C.P w = .ok (goInt 0) w := by
          cases ad <;> simp [Builtin.copy_, run_underlying hu, k1, Go.sizeOf, typeInfo, hi, hsz, hfirst, storeCells] <;> simpa using hfirst
        simp only [Sem.run_bind, hrun, Result.andThen_ok, Sem.run_pure]
        exact done_pure hS hF hd rfl (x := .v (i64 0)) (hint _) rfl
      · rw [hsp] at hchg
        have hrun : (Builtin.copy_ #[t, t2] ty #[.slice (some ad) len cap, v2]).run C.P w = .ok (goInt m) w' := by
          simp [Builtin.copy_, run_underlying hu, k1, Go.sizeOf, typeInfo, hi, hsz, hmin, hfirst, hst]
        simp only [Sem.run_bind, hrun, Result.andThen_ok, Sem.run_pure]
        exact done_of_chg hS hF hd hchg (hint _)
  · cases ht
end
end Ey

namespace Ey
open Go Go.RowKit

section
variable {C : Cx} {g : Gh} {own : Own} {B : Nat} {H : Heap} {w : World} {env : Env} {a : Act} {n : Nat} {L : List Nat}

theorem bytes_cells : ∀ {ys : List AV} {s : List UInt8}, ys.mapM byteOf = some s → (∀ y ∈ ys, y.cells.length = 1) ∧ flat ys = ys
  | [], _, _ => ⟨fun y hy => by simp at hy, rfl⟩
  | y :: ys, s, h => by
    simp only [List.mapM_cons, Option.bind_eq_bind, Option.bind_eq_some_iff] at h
    obtain ⟨b, hb, r, hr, _⟩ := h
    obtain ⟨h1, h2⟩ := bytes_cells hr
    have hy : y.cells = [y] := by
      unfold byteOf at hb
      split at hb
      · rfl
      · cases hb
    refine ⟨fun z hz => ?_, ?_⟩
    · rcases List.mem_cons.1 hz with rfl | hz
      · rw [hy]; rfl
      · exact h1 z hz
    · simp only [flat, List.flatMap_cons] at h2 ⊢
      rw [hy, h2]; rfl

theorem bytes_ints : ∀ {ys : List AV} {s : List UInt8}, ys.mapM byteOf = some s → ∀ {news : List Value}, CR C g ys news → news = (s.map fun b => (b.toNat : Int)).map (Value.int .u8)
  | [], s, h, news, hr => by
    simp at h; subst h
    exact List.eq_nil_of_length_eq_zero hr.len.symm
  | y :: ys, s, h, news, hr => by
    simp only [List.mapM_cons, Option.bind_eq_bind, Option.bind_eq_some_iff] at h
    obtain ⟨b, hb, r, hr', hs⟩ := h
    simp at hs; subst hs
    cases news with
    | nil => have := hr.len; simp at this
    | cons v news =>
      have ih := bytes_ints hr' (news := news) ⟨by simpa using hr.len, fun c hc => hr.one c (List.mem_cons_of_mem _ hc), fun i x u hx hu => hr.rel (i + 1) x u (by simpa using hx) (by simpa using hu)⟩
      have h1 := hr.rel 0 y v rfl rfl
      rw [ih]
      unfold byteOf at hb
      split at hb
      · rename_i m
        split at hb
        · rename_i hm
          simp at hb; subst hb
          cases h1
          have : ((UInt8.ofNat m.toNat).toNat : Int) = m := by
            rw [UInt8.toNat_ofNat']; omega
          simp only [List.map_cons, this]
        · cases hb
      · cases hb

theorem cvb_sim (hS : St C g own B H w) {src dst : TypeId} (hs : bytesTy C.P src = true) (hd : strTy C.P dst = true) {x : AV} {v : Value} (hx : VR C g x v) (hn : ∀ s, x ≠ .str s) {ys : List AV} (hy : elemsOf H 1 x = some ys) {s : List UInt8} (hb : ys.mapM byteOf = some s) :
    ∃ r, (Go.convert src dst v).run C.P w = .ok r w ∧ VR C g (.str s) r := by
  obtain ⟨e, i, hu, hu8, _⟩ := bytesTy_is hs
  have hds := strTy_is hd
  obtain ⟨h1, h2, news, h3, h4⟩ := elems_run hS (Nat.lt_succ_self 0) hx hy
  rw [(bytes_cells hb).2] at h3
  have hv : ∃ ad len cap, v = .slice ad len cap ∧ (ad = none → len = 0) := by
    unfold elemsOf at hy
    split at hy
    · cases hx with
      | nil => exact ⟨_, _, _, rfl, fun _ => rfl⟩
      | list => exact ⟨_, _, _, rfl, fun h => by cases h⟩
    · cases hx with
      | cap0 ad => exact ⟨_, _, _, rfl, fun h => by cases h⟩
    · rename_i s'; exact absurd rfl (hn s')
    · rcases ms_inv hx with ⟨_, _, _, _, h, _⟩ | ⟨_, _, _, _, ad, h, _⟩
      · exact ⟨_, _, _, h, fun _ => rfl⟩
      · exact ⟨_, _, _, h, fun h => by cases h⟩
    · cases hy
  obtain ⟨ad, len, cap, rfl, hnone⟩ := hv
  have hlen : len = ys.length := by
    simp only [Builtin.lenOf, Sem.run_pure] at h1
    injection h1
  rw [run_convert_bytes_string w src dst e ad len cap hu hu8 hds]
  cases ad with
  | none =>
    have h0 := hnone rfl
    subst h0
    have : ys = [] := List.eq_nil_of_length_eq_zero hlen.symm
    subst this
    simp at hb
    subst hb
    exact ⟨.string .empty, rfl, VR.str (C := C) (g := g) ByteArray.empty⟩
  | some ad =>
    have h5 := h4 w (fun _ => rfl)
    simp only [Builtin.firstCells, Nat.mul_one] at h5
    rw [← hlen] at h5
    have h6 := bytes_ints hb h3
    rw [h6] at h5
    refine ⟨.string ⟨s.toArray⟩, ?_, ?_⟩
    · rw [run_bytesToString w ad len cap _ h5, foldl_push_byteCells]
      rw [show ByteArray.empty.data = #[] from rfl]
      simp
    · have := VR.str (C := C) (g := g) ⟨s.toArray⟩
      simpa using this

theorem list_new (hS : St C g own B H w) (hF : Fr C g own w env a.tmps n L) {w1 : World} (hN : New w w1) {xs : List AV} {sz cap : Nat} (h0 : 0 < sz) (hsz : ∀ x ∈ xs, x.cells.length = sz) (hcap : xs.length ≤ cap) {c : Array Value}
    (hcell : ∀ j, w1.cell? ⟨w.heap.size, j, none⟩ = c[j]?) (hcs : CR C g (flat xs) (c.toList.take (xs.length * sz))) :
    ∃ g' own', VR C g' (.list false xs) (.slice (some ⟨w.heap.size, 0, none⟩) xs.length cap) ∧ Ext g own B H w g' own' H w1 ∧ St C g' own' B H w1 ∧ Fr C g' own' w1 env a.tmps n L := by
  have hle := Gh.le_grow hS fun j => c[j]?
  refine ⟨_, _, ?_, Ext.grow hS hN (fun j => c[j]?) (fun _ => .imm), hS.grow hN _ _ (fun o v h => ⟨rfl, by rw [hcell]; exact h⟩), hF.grow hS hN _ _⟩
  have hlen := hcs.len
  rw [flat_len hsz] at hlen
  have hin : ∀ i j, i < xs.length → j < sz → i * sz + j < xs.length * sz ∧ i * sz + j < c.size := fun i j hi hj => by
    have := idx_lt hi (Nat.le_refl _) hj
    simp at hlen
    exact ⟨this, by omega⟩
  refine .list xs w.heap.size 0 cap sz (fun i j => c.getD (i * sz + j) undef) hcap (fun i x hx => ⟨hsz x (List.mem_of_getElem? hx), fun e he => ?_⟩) (fun i x hx e => by have := hsz x (List.mem_of_getElem? hx); rw [e] at this; simp at this; omega) (fun i j hi hj => ?_) (fun i j x y hx hy => ?_)
  · exact hcs.one e (List.mem_flatMap.2 ⟨x, List.mem_of_getElem? hx, he⟩)
  · have := (hin i j hi hj).2
    simp [Gh.grow, this]
  · have hi := (List.getElem?_eq_some_iff.1 hx).1
    have hj : j < sz := by
      have := (List.getElem?_eq_some_iff.1 hy).1
      have := hsz x (List.mem_of_getElem? hx)
      omega
    obtain ⟨h1, h1'⟩ := hin i j hi hj
    have h2 := flat_get hsz hx hj
    exact (hcs.rel (i * sz + j) y (c.getD (i * sz + j) undef) (by rw [h2]; exact hy) (by rw [List.getElem?_take, if_pos h1]; simp [h1'])).mono hle

theorem cvs_done (hS : St C g own B H w) (hF : Fr C g own w env a.tmps n L) {d : Option Nat} (hd : dstOK n L d) {src dst : TypeId} (hs : strTy C.P src = true) (ht : bytesTy C.P dst = true) {s : List UInt8} {v : Value} (hx : VR C g (.str s) v) :
    ∃ r w1, (Go.convert src dst v).run C.P w = .ok r w1 ∧ Done C g own B H w a n L d (setDst d (.v (.list false (s.map fun b => .int .u8 b.toNat))) env) H (.ok (.value r) w1) := by
  obtain ⟨e, i, hu, hu8, _⟩ := bytesTy_is ht
  obtain ⟨bs, rfl, rfl⟩ := str_inv hx
  have hl : bs.data.toList.length = bs.size := Array.length_toList
  have hcap := le_grownCap w bs.size 0 e
  refine ⟨_, _, run_bytes_of_string w src dst e bs (strTy_is hs) hu hu8, ?_⟩
  generalize hK : grownCap w bs.size 0 e = K at hcap ⊢
  generalize hc : bytesRow bs K = c
  have hN : New w (w.drew.alloc (.cells c e (c.size, c.size + 1))) := New.drew_alloc w _
  have hxs : (bs.data.toList.map fun b => AV.int .u8 b.toNat).length = bs.size := by simp
  obtain ⟨g', own', k1, k2, k3, k4⟩ := list_new (B := B) hS hF hN (xs := bs.data.toList.map fun b => AV.int .u8 b.toNat) (sz := 1) (cap := K) (by omega) (fun x hx => by
      obtain ⟨b, _, rfl⟩ := List.mem_map.1 hx; rfl) (by rw [hxs]; exact hcap) (c := c) (fun j => by
      simp only [World.cell?]
      rw [show (w.drew.alloc (.cells c e (c.size, c.size + 1))).heap[w.heap.size]? = some (.cells c e (c.size, c.size + 1)) from heap_alloc_new w.drew _]
      rfl) (by
      rw [flat_bytes, hxs, Nat.mul_one]
      subst hc
      have htake : (bytesRow bs K).toList.take bs.size = bs.data.toList.map fun b => Value.int .u8 b.toNat := by
        unfold bytesRow
        rw [Array.toList_append, List.take_append_of_le_length (by simp [hl])]
        rw [List.take_of_length_le (by simp [hl])]
        simp
      rw [htake]
      refine ⟨by simp, fun c hc => ?_, fun i x y hx hy => ?_⟩
      · obtain ⟨b, _, rfl⟩ := List.mem_map.1 hc; rfl
      · simp only [List.getElem?_map, Option.map_eq_some_iff] at hx hy
        obtain ⟨b1, e1, rfl⟩ := hx
        obtain ⟨b2, e2, rfl⟩ := hy
        rw [e1] at e2
        simp at e2
        subst e2
        exact .int _ _)
  rw [hxs] at k1
  exact ⟨g', own', _, _, .inl rfl, k2, k3, k4.put hd (x := .v _) k1 rfl⟩

end
end Ey

namespace Ey
open Go Go.RowKit

def noSlots (own : Own) : Prop := ∀ b o s, own b o ≠ .slot s

def CallR (C : Cx) (g : Gh) (own : Own) (B : Nat) (H : Heap) (w : World) (r : CRes) (e : Ending) (w' : World) : Prop :=
  ∃ g' own', noSlots own' ∧ match r with
    | .ret v H' => (∃ rv, e = .returned rv ∧ VR C g' v rv) ∧ Ext g own B H w g' own' H' w' ∧ St C g' own' B H' w'
    | .pan v H' => (∃ pv, e = .panicked [{ v := pv, recovered := false }] ∧ VR C g' v pv) ∧ Ext g own B H w g' own' H' w' ∧ St C g' own' B H' w'

def CallsOK (C : Cx) (cl : Caller) : Prop := ∀ f vs H r, cl f vs H = some r → ∀ fid, C.fm f = some fid → ∀ g own B w (ws : Array Value), St C g own B H w → noSlots own → vs.length = ws.size →
  (∀ (i : Nat) (x : AV) (y : Value), vs[i]? = some x → ws[i]? = some y → VR C g x y) → Calls C.P fid ws w (CallR C g own B H w r)

def FunsOK (C : Cx) : Prop := ∀ f fid, C.fm f = some fid → ∃ fn c, C.P.funcs[fid]? = some fn ∧ fn.body = some c ∧ fn.name ≠ "runtime.NumGoroutine"

def calleeOwn (own : Own) : Own := fun b o => match own b o with
  | .slot _ => .frgn
  | x => x
def backOwn (own own' : Own) : Own := fun b o => match own b o with
  | .slot s => .slot s
  | _ => own' b o

section
variable {C : Cx} {g : Gh} {own : Own} {B : Nat} {H : Heap} {w : World} {env : Env} {a : Act} {n : Nat} {L : List Nat}

theorem calleeOwn_eq {own : Own} {b o : Nat} {x : Owner} (h : own b o = x) (hx : ∀ s, x ≠ .slot s) : calleeOwn own b o = x := by
  unfold calleeOwn
  rw [h]
  cases x <;> first | rfl | exact absurd rfl (hx _)

theorem noSlots_callee (own : Own) : noSlots (calleeOwn own) := by
  intro b o s
  unfold calleeOwn
  cases own b o <;> simp

theorem cellsAt_own {own own' : Own} {ow : Owner} {b o : Nat} {cs : List AV} (h : ∀ o', own b o' = ow → own' b o' = ow) (hc : CellsAt C g own w ow b o cs) : CellsAt C g own' w ow b o cs :=
  ⟨hc.1, fun j y hy => by obtain ⟨h1, h2⟩ := hc.2 j y hy; exact ⟨h _ h1, h2⟩⟩

theorem arrAt_own {own own' : Own} {id : Nat} {nl : Bool} {sz : Nat} {xs : List AV} {ph : Ph} (h : ∀ b o', own b o' = .heap id → own' b o' = .heap id) (hc : ArrAt C g own w id nl sz xs ph) : ArrAt C g own' w id nl sz xs ph := by
  obtain ⟨h1, h2⟩ := hc
  refine ⟨h1, ?_⟩
  cases hb : ph.base with
  | none => rw [hb] at h2; exact h2
  | some p =>
    obtain ⟨b, o⟩ := p
    rw [hb] at h2
    obtain ⟨k1, k2, k3, k4, k5⟩ := h2
    exact ⟨k1, k2, k3, fun k hk => ⟨h _ _ (k4 k hk).1, (k4 k hk).2⟩, k5⟩

theorem St.callee (hS : St C g own B H w) : St C g (calleeOwn own) B H w where
  imm := fun b o v h => ⟨calleeOwn_eq (hS.imm b o v h).1 (by simp), (hS.imm b o v h).2⟩
  obj := fun id cs h => by
    obtain ⟨b, o, h1, h2⟩ := hS.obj id cs h
    exact ⟨b, o, h1, cellsAt_own (fun o' ho => calleeOwn_eq ho (by simp)) h2⟩
  arr := fun id nl sz xs h => by
    obtain ⟨⟨ph, h1, h2⟩, h3⟩ := hS.arr id nl sz xs h
    exact ⟨⟨ph, h1, arrAt_own (fun b o' ho => calleeOwn_eq ho (by simp)) h2⟩, h3⟩
  mp := fun id es h => (hS.mp id es h).step (.refl g) (fun _ hb => calleeOwn_eq hb (by simp)) fun _ _ _ _ hm => hm
  next := hS.next
  ext := fun b o => by
    rcases hS.ext b o with h | h
    · exact .inl (calleeOwn_eq h (by simp))
    · exact .inr h
  base := fun b o ⟨x, hx⟩ => by
    refine hS.base b o ⟨x, ?_⟩
    unfold calleeOwn at hx
    cases ho : own b o <;> simp [ho] at hx ⊢
    exact hx
  size := hS.size
  ro := hS.ro
  gl := hS.gl

variable {g' : Gh} {own' : Own} {H' : Heap} {w' : World}

theorem back_frgn (hE : Ext g (calleeOwn own) B H w g' own' H' w') {b o s : Nat} (h : own b o = .slot s) :
    own' b o = .frgn ∧ w'.cell? ⟨b, o, none⟩ = w.cell? ⟨b, o, none⟩ ∧ w'.frozen? ⟨b, o, none⟩ = w.frozen? ⟨b, o, none⟩ :=
  hE.fr b o (by unfold calleeOwn; rw [h])

theorem back_eq (hE : Ext g (calleeOwn own) B H w g' own' H' w') {b o : Nat} {x : Owner} (h : own' b o = x) (hx : x ≠ .frgn) : backOwn own own' b o = x := by
  unfold backOwn
  cases ho : own b o with
  | slot s => have := (back_frgn hE ho).1; rw [h] at this; exact absurd this hx
  | free => exact h
  | imm => exact h
  | frgn => exact h
  | heap id => exact h

theorem St.back (hS : St C g own B H w) (hE : Ext g (calleeOwn own) B H w g' own' H' w') (hS' : St C g' own' B H' w') : St C g' (backOwn own own') B H' w' where
  imm := fun b o v h => ⟨back_eq hE (hS'.imm b o v h).1 (by simp), (hS'.imm b o v h).2⟩
  obj := fun id cs h => by
    obtain ⟨b, o, h1, h2⟩ := hS'.obj id cs h
    exact ⟨b, o, h1, cellsAt_own (fun o' ho => back_eq hE ho (by simp)) h2⟩
  arr := fun id nl sz xs h => by
    obtain ⟨⟨ph, h1, h2⟩, h3⟩ := hS'.arr id nl sz xs h
    exact ⟨⟨ph, h1, arrAt_own (fun b o' ho => back_eq hE ho (by simp)) h2⟩, h3⟩
  mp := fun id es h => (hS'.mp id es h).step (.refl g') (fun _ hb => back_eq hE hb (by simp)) fun _ _ _ _ hm => hm
  next := hS'.next
  ext := fun b o => by
    unfold backOwn
    cases ho : own b o with
    | slot s =>
      have h1 := hS.lt (o := o) (b := b) (by rw [ho]; simp)
      have h2 := hE.below.size
      exact .inr (by omega)
    | free => exact hS'.ext b o
    | imm => exact hS'.ext b o
    | frgn => exact hS'.ext b o
    | heap id => exact hS'.ext b o
  base := fun b o ⟨x, hx⟩ => by
    unfold backOwn at hx
    cases ho : own b o with
    | slot s => exact hS.base b o ⟨s, .inr ho⟩
    | free => rw [ho] at hx; exact hS'.base b o ⟨x, hx⟩
    | imm => rw [ho] at hx; exact hS'.base b o ⟨x, hx⟩
    | frgn => rw [ho] at hx; exact hS'.base b o ⟨x, hx⟩
    | heap id => rw [ho] at hx; exact hS'.base b o ⟨x, hx⟩
  size := hS'.size
  ro := hS'.ro
  gl := hS'.gl

theorem Ext.back (hE : Ext g (calleeOwn own) B H w g' own' H' w') : Ext g own B H w g' (backOwn own own') H' w' where
  le := hE.le
  ob := hE.ob
  ar := hE.ar
  get := hE.get
  ro := hE.ro
  next := hE.next
  fr := fun b o h => by
    obtain ⟨h1, h2, h3⟩ := hE.fr b o (calleeOwn_eq h (by simp))
    refine ⟨?_, h2, h3⟩
    unfold backOwn
    rw [h]
    exact h1
  below := hE.below
  frm := fun b ms c h hm => hE.frm b ms c (calleeOwn_eq h (by simp)) hm

theorem Fr.back {tmps : Array Value} (hF : Fr C g own w env tmps n L) (hE : Ext g (calleeOwn own) B H w g' own' H' w') : Fr C g' (backOwn own own') w' env tmps n L where
  size := hF.size
  lvs := hF.lvs
  gl := fun b o v h => hE.le.G b o v (hF.gl b o v h)
  slots := fun s => by
    have k := hF.slots s
    simp only [SlotOK] at k ⊢
    cases he : env.get s with
    | no => trivial
    | un => rw [he] at k; exact k
    | v x => rw [he] at k; exact k.mono hE.le
    | lv cs =>
      rw [he] at k
      obtain ⟨b, o, h1, h2⟩ := k
      refine ⟨b, o, h1, h2.1, fun j y hy => ?_⟩
      obtain ⟨m1, v, m2, m3, m4⟩ := h2.2 j y hy
      obtain ⟨_, p2, p3⟩ := back_frgn hE m1
      exact ⟨by unfold backOwn; rw [m1], v, by rw [p2]; exact m2, by rw [p3]; exact m3, m4.mono hE.le⟩
    | lp s' off => rw [he] at k; exact k

end

def dstOKb (n : Nat) (L : List Nat) : Option Nat → Bool
  | none => true
  | some d => decide (d < n) && !L.contains d

theorem dstOKb_is {n : Nat} {L : List Nat} {d : Option Nat} (h : dstOKb n L d = true) : dstOK n L d := by
  cases d with
  | none => trivial
  | some d =>
    simp only [dstOKb, Bool.and_eq_true, decide_eq_true_eq, Bool.not_eq_true'] at h
    exact ⟨h.1, by simpa using h.2⟩

def zeroCellsOK (P : Program) (t : TypeId) (cs : List AV) : Bool :=
  match P.info? t with
  | some i => match i.zero with
    | some v => cvCells v.cells.toList cs
    | none => false
  | none => false

theorem zeroCells_run {C : Cx} {t : TypeId} {cs : List AV} (h : zeroCellsOK C.P t cs = true) (g : Gh) : ∃ v, (∀ w, (zeroValue t).run C.P w = .ok v w) ∧ CR C g cs v.cells.toList := by
  unfold zeroCellsOK at h
  split at h
  · rename_i i hi
    split at h
    · rename_i v hv
      exact ⟨v, fun w => by simp [zeroValue, typeInfo, hi, hv], cvCells_rel h⟩
    · simp at h
  · simp at h

def sizeIs (P : Program) (t : TypeId) (sz : Nat) : Bool :=
  match P.info? t with
  | some i => i.size == sz && decide (0 < sz)
  | none => false

theorem sizeIs_run {P : Program} {t : TypeId} {sz : Nat} (h : sizeIs P t sz = true) (w : World) : (Go.sizeOf t).run P w = .ok sz w ∧ 0 < sz := by
  unfold sizeIs at h
  split at h
  · rename_i i hi
    simp only [Bool.and_eq_true, beq_iff_eq, decide_eq_true_eq] at h
    exact ⟨by simp [Go.sizeOf, typeInfo, hi, h.1], h.2⟩
  · simp at h

def sizeNone (P : Program) (t : TypeId) : Bool :=
  match P.info? t with
  | some i => i.size == 0
  | none => false

theorem sizeNone_run {P : Program} {t : TypeId} (h : sizeNone P t = true) (w : World) : (Go.sizeOf t).run P w = .ok 0 w := by
  unfold sizeNone at h
  split at h
  · rename_i i hi
    simp only [beq_iff_eq] at h
    simp [Go.sizeOf, typeInfo, hi, h]
  · simp at h

def mapLookOK (P : Program) (n : Nat) (t : TypeId) (z : AV) : Bool :=
  match P.underlying t with
  | some (.map k e) => keyTyOK P n k && zeroOK P e z
  | _ => false

def chkSt (C : Cx) (n : Nat) (L : List Nat) (op : Op) (dst : Option Nat) (aop : AOp) : Bool :=
  match op, aop with
  | .alloc t, .alv cs => zeroCellsOK C.P t cs && (match dst with | some d => decide (d < n) && L.contains d | none => false)
  | .box _ x, .blv sz y => opdOK C x y && decide (0 < sz) && (match dst with | some d => decide (d < n) && L.contains d | none => false)
  | .box _ x, .bim sz y => dstOKb n L dst && opdOK C x y && decide (0 < sz)
  | .alloc t, .aob cs => dstOKb n L dst && zeroCellsOK C.P t cs
  | .box _ x, .bob sz y => dstOKb n L dst && opdOK C x y && decide (0 < sz)
  | .buildSlice t m ps, .mkl z k qs => dstOKb n L dst && m == k && partsMOK C ps.toList qs && (match C.P.underlying t with
      | some (.slice e) => zeroTy C.P e z.cells.length z && decide (m * z.cells.length ≤ 2 ^ 24)
      | _ => false)
  | .store t x v, .st sz x' v' => dst == none && sizeIs C.P t sz && opdOK C x x' && opdOK C v v'
  | .store t x v, .sto sz x' v' => dst == none && sizeIs C.P t sz && opdOK C x x' && opdOK C v v'
  | .makeSlice t l c, .mks sz z y => dstOKb n L dst && mksOK C.P t sz z && opdOK C l y && opdOK C c y
  | .call c, .app sz b x => dstOKb n L dst && (match asBuiltin c with
      | some (.append, [s, y], [t, tx]) => appOK C.P t tx sz && opdOK C s b && opdOK C y x
      | _ => false)
  | .call c, .call f ys => dstOKb n L dst && (match c.callee with
      | .value (.func fid) => C.fm f == some fid && opdsOK C c.args.toList ys
      | _ => false)
  | .call c, .callc f ys _ => dstOKb n L dst && (match c.callee with
      | .value (.func fid) => C.fm f == some fid && opdsOK C c.args.toList ys
      | _ => false)
  | .call c, .callv x ys => dstOKb n L dst && (match c.callee with
      | .value y => opdOK C y x && opdsOK C c.args.toList ys
      | _ => false)
  | .panic x, .pan y => opdOK C x y
  | .buildSlice t m ps, .mkm z k qs => dstOKb n L dst && m == k && partsMOK C ps.toList qs && (match C.P.underlying t with
      | some (.slice e) => zeroTy C.P e z.cells.length z && decide (m * z.cells.length ≤ 2 ^ 24)
      | _ => false)
  | .call c, .clr sz z x => dstOKb n L dst && (match asBuiltin c with
      | some (.clear, [y], [t]) => clrOK C.P t sz z && opdOK C y x
      | _ => false)
  | .call c, .apz sz z b x => dstOKb n L dst && (match asBuiltin c with
      | some (.append, [s, y], [t, tx]) => apzOK C.P t tx sz z && opdOK C s b && opdOK C y x
      | _ => false)
  | .store t x v, .st0 x' v' => dst == none && sizeNone C.P t && opdOK C x x' && opdOK C v v'
  | .convert s t x, .cvb y => dstOKb n L dst && bytesTy C.P s && strTy C.P t && opdOK C x y
  | .convert s t x, .cvs y => dstOKb n L dst && strTy C.P s && bytesTy C.P t && opdOK C x y
  | .store t x v, .sts sz x' v' => dst == none && sizeIs C.P t sz && opdOK C x x' && opdOK C v v'
  | .makeMap _ none, .mkmp => dstOKb n L dst
  | .lookup t x k ok, .mpl m z ok' x' k' => dstOKb n L dst && ok == ok' && opdOK C x x' && opdOK C k k' && mapLookOK C.P m t z
  | .mapUpdate t x k v, .mpu m x' k' v' => dst == none && opdOK C x x' && opdOK C k k' && opdOK C v v' && mapTyOK C.P m t
  | .call c, .cpy sz x z => dstOKb n L dst && (match asBuiltin c with
      | some (.copy, [x', z'], [t, _]) => cpyOK C.P t sz && opdOK C x' x && opdOK C z' z
      | _ => false)
  | .call c, .callp f _ ys => dstOKb n L dst && (match c.callee with
      | .value (.func fid) => C.fm f == some fid && opdsOK C c.args.toList ys
      | _ => false)
  | _, aop => dstOKb n L dst && chkPure C op aop.base

end Ey

namespace Ey
open Go Go.RowKit

section
variable {C : Cx} {g : Gh} {own : Own} {B : Nat} {H : Heap} {w : World} {env : Env} {n : Nat} {L : List Nat} {tmps : Array Value}

def ghE (g : Gh) : Gh := { G := g.G, ob := fun _ => none, ar := fun _ _ => none }
def ownE (own : Own) : Own := fun b o => match own b o with
  | .slot _ => .frgn
  | .heap _ => .frgn
  | x => x

theorem ownE_eq {b o : Nat} {x : Owner} (h : own b o = x) (h1 : ∀ s, x ≠ .slot s) (h2 : ∀ s, x ≠ .heap s) : ownE own b o = x := by
  unfold ownE
  rw [h]
  cases x with
  | slot s => exact absurd rfl (h1 s)
  | heap s => exact absurd rfl (h2 s)
  | free => rfl
  | imm => rfl
  | frgn => rfl

theorem ownE_no (own : Own) : (∀ b o s, ownE own b o ≠ .slot s) ∧ ∀ b o s, ownE own b o ≠ .heap s := by
  constructor <;> intro b o s <;> unfold ownE <;> cases own b o <;> simp

theorem St.empty (hS : St C g own B H w) : St C (ghE g) (ownE own) B heap0 w where
  imm := fun b o v h => ⟨ownE_eq (hS.imm b o v h).1 (by simp) (by simp), (hS.imm b o v h).2⟩
  obj := fun id cs h => by cases h
  arr := fun id nl sz xs h => by cases h
  mp := fun id es h => by cases h
  next := fun id _ => ⟨rfl, rfl, fun _ => rfl⟩
  ext := fun b o => by
    rcases hS.ext b o with h | h
    · exact .inl (ownE_eq h (by simp) (by simp))
    · exact .inr h
  base := fun b o ⟨x, hx⟩ => by
    rcases hx with hx | hx
    · exact absurd hx ((ownE_no own).2 b o x)
    · exact absurd hx ((ownE_no own).1 b o x)
  size := hS.size
  ro := Nat.le_refl _
  gl := hS.gl

theorem VR.empty {x : AV} {v : Value} (r : VR C g x v) (h : x.under 0 = true) : VR C (ghE g) x v :=
  r.on (n := 0) (g := g) (g' := ghE g) ⟨fun _ _ _ h => h, fun _ _ h => absurd h (Nat.not_lt_zero _), fun _ _ _ h => absurd h (Nat.not_lt_zero _)⟩ h

def ownF (own own' : Own) : Own := fun b o => match own b o with
  | .slot s => .slot s
  | .heap s => .heap s
  | _ => match own' b o with
    | .slot _ => .free
    | .heap _ => .free
    | x => x

variable {g' : Gh} {own' : Own} {H' : Heap} {w' : World}

def ghF (g g' : Gh) : Gh := { G := g'.G, ob := g.ob, ar := g.ar }

theorem ghF_le (hE : Ext (ghE g) (ownE own) B heap0 w g' own' H' w') : g.Le (ghF g g') := ⟨fun _ _ _ h => hE.le.G _ _ _ h, fun _ _ h => h, fun _ _ _ h => h⟩

theorem ownF_frgn (hE : Ext (ghE g) (ownE own) B heap0 w g' own' H' w') {b o : Nat} (h : (∃ s, own b o = .slot s) ∨ ∃ s, own b o = .heap s) :
    own' b o = .frgn ∧ w'.cell? ⟨b, o, none⟩ = w.cell? ⟨b, o, none⟩ ∧ w'.frozen? ⟨b, o, none⟩ = w.frozen? ⟨b, o, none⟩ :=
  hE.fr b o (by unfold ownE; rcases h with ⟨s, h⟩ | ⟨s, h⟩ <;> rw [h])

theorem ownF_keep {b o : Nat} {x : Owner} (h : own b o = x) (hx : (∃ s, x = .slot s) ∨ ∃ s, x = .heap s) : ownF own own' b o = x := by
  unfold ownF; rw [h]; rcases hx with ⟨s, rfl⟩ | ⟨s, rfl⟩ <;> rfl

theorem ownF_new {b o : Nat} {x : Owner} (h : own' b o = x) (h0 : (∀ s, own b o ≠ .slot s) ∧ ∀ s, own b o ≠ .heap s) (h1 : (∀ s, x ≠ .slot s) ∧ ∀ s, x ≠ .heap s) : ownF own own' b o = x := by
  unfold ownF
  cases ho : own b o with
  | slot s => exact absurd ho (h0.1 s)
  | heap s => exact absurd ho (h0.2 s)
  | _ =>
    simp only [h]
    cases x with
    | slot s => exact absurd rfl (h1.1 s)
    | heap s => exact absurd rfl (h1.2 s)
    | _ => rfl

theorem cells_back (hE : Ext (ghE g) (ownE own) B heap0 w g' own' H' w') {ow : Owner} (hw : (∃ s, ow = .slot s) ∨ ∃ s, ow = .heap s) {b o : Nat} {cs : List AV} (hc : CellsAt C g own w ow b o cs) : CellsAt C (ghF g g') (ownF own own') w' ow b o cs := by
  refine ⟨hc.1, fun j y hy => ?_⟩
  obtain ⟨m1, v, m2, m3, m4⟩ := hc.2 j y hy
  obtain ⟨_, p2, p3⟩ := ownF_frgn (own := own) hE (b := b) (o := o + j) (by rw [m1]; rcases hw with ⟨s, rfl⟩ | ⟨s, rfl⟩; exact .inl ⟨s, rfl⟩; exact .inr ⟨s, rfl⟩)
  exact ⟨ownF_keep m1 hw, v, by rw [p2]; exact m2, by rw [p3]; exact m3, m4.mono (ghF_le hE)⟩

theorem St.full (hS : St C g own B H w) (hE : Ext (ghE g) (ownE own) B heap0 w g' own' H' w') (hS' : St C g' own' B H' w') : St C (ghF g g') (ownF own own') B H w' where
  imm := fun b o v h => by
    obtain ⟨h1, h2⟩ := hS'.imm b o v h
    refine ⟨ownF_new h1 ⟨fun s h => ?_, fun s h => ?_⟩ (by simp), h2⟩
    · have := (ownF_frgn hE (.inl ⟨s, h⟩)).1; rw [h1] at this; cases this
    · have := (ownF_frgn hE (.inr ⟨s, h⟩)).1; rw [h1] at this; cases this
  obj := fun id cs h => by
    obtain ⟨b, o, h1, h2⟩ := hS.obj id cs h
    exact ⟨b, o, h1, cells_back hE (.inr ⟨id, rfl⟩) h2⟩
  arr := fun id nl sz xs h => by
    obtain ⟨⟨ph, h1, h2, h3⟩, h4⟩ := hS.arr id nl sz xs h
    refine ⟨⟨ph, h1, h2, ?_⟩, h4⟩
    cases hb : ph.base with
    | none => rw [hb] at h3; exact h3
    | some p =>
      obtain ⟨b, o⟩ := p
      rw [hb] at h3
      obtain ⟨k1, k2, k3, k4, k5⟩ := h3
      have hfr : ∀ k, k < ph.cap * sz → w'.cell? ⟨b, o + k, none⟩ = w.cell? ⟨b, o + k, none⟩ ∧ w'.frozen? ⟨b, o + k, none⟩ = w.frozen? ⟨b, o + k, none⟩ := fun k hk => (ownF_frgn hE (.inr ⟨id, (k4 k hk).1⟩)).2
      refine ⟨k1, k2, k3, fun k hk => ?_, fun i x j y hx hy => ?_⟩
      · obtain ⟨m1, v, m2, m3, _⟩ := k4 k hk
        obtain ⟨p2, p3⟩ := hfr k hk
        exact ⟨ownF_keep m1 (.inr ⟨id, rfl⟩), v, by rw [p2]; exact m2, by rw [p3]; exact m3, trivial⟩
      · obtain ⟨v, m2, m4⟩ := k5 i x j y hx hy
        have hi := (List.getElem?_eq_some_iff.1 hx).1
        have hj := (List.getElem?_eq_some_iff.1 hy).1
        have hsz := (k3 i x hx).1
        have hlt : i * sz + j < ph.cap * sz := by
          have h5 : (i + 1) * sz ≤ ph.cap * sz := Nat.mul_le_mul_right _ (by omega)
          rw [Nat.add_mul, Nat.one_mul] at h5
          omega
        have := (hfr _ hlt).1
        rw [← Nat.add_assoc] at this
        exact ⟨v, by rw [this]; exact m2, m4.mono (ghF_le hE)⟩
  mp := fun id es h => by
    obtain ⟨b, h1, h2, ms, c, h3, h4⟩ := hS.mp id es h
    exact ⟨b, h1, ownF_keep h2 (.inr ⟨id, rfl⟩), ms, c, hE.frm b ms c (by unfold ownE; rw [h2]) h3, h4.mono (ghF_le hE)⟩
  next := hS.next
  ext := fun b o => by
    have hsz := hE.below.size
    have hlt : own b o ≠ .free → b < w'.heap.size := fun h => by
      rcases hS.ext b o with h' | h'
      · exact absurd h' h
      · omega
    unfold ownF
    cases ho : own b o with
    | slot s => exact .inr (hlt (by rw [ho]; simp))
    | heap s => exact .inr (hlt (by rw [ho]; simp))
    | _ =>
      simp only
      rcases hS'.ext b o with h | h
      · rw [h]; exact .inl rfl
      · exact .inr h
  base := fun b o ⟨x, hx⟩ => by
    refine hS.base b o ⟨x, ?_⟩
    unfold ownF at hx
    cases ho : own b o with
    | slot s => rw [ho] at hx; exact hx
    | heap s => rw [ho] at hx; exact hx
    | _ => rw [ho] at hx; simp only at hx; cases hp : own' b o <;> rw [hp] at hx <;> rcases hx with hx | hx <;> cases hx
  size := by have := hE.below.size; have := hS.size; omega
  ro := hS.ro
  gl := hS'.gl

theorem Ext.full (hE : Ext (ghE g) (ownE own) B heap0 w g' own' H' w') : Ext g own B H w (ghF g g') (ownF own own') H w' where
  le := ghF_le hE
  ob := fun _ _ => rfl
  ar := fun _ _ _ => rfl
  get := fun _ _ => rfl
  ro := rfl
  next := Nat.le_refl _
  fr := fun b o h => by
    obtain ⟨h1, h2, h3⟩ := hE.fr b o (ownE_eq h (by simp) (by simp))
    exact ⟨ownF_new h1 (by rw [h]; simp) (by simp), h2, h3⟩
  below := hE.below
  frm := fun b ms c h hm => hE.frm b ms c (ownE_eq h (by simp) (by simp)) hm

theorem Fr.full (hF : Fr C g own w env tmps n L) (hE : Ext (ghE g) (ownE own) B heap0 w g' own' H' w') : Fr C (ghF g g') (ownF own own') w' env tmps n L where
  size := hF.size
  lvs := hF.lvs
  gl := fun b o v h => hE.le.G b o v (hF.gl b o v h)
  slots := fun s => by
    have k := hF.slots s
    simp only [SlotOK] at k ⊢
    cases he : env.get s with
    | no => trivial
    | un => rw [he] at k; exact k
    | v x => rw [he] at k; exact k.mono (ghF_le hE)
    | lv cs =>
      rw [he] at k
      obtain ⟨b, o, h1, h2⟩ := k
      exact ⟨b, o, h1, cells_back hE (.inl ⟨s, rfl⟩) h2⟩
    | lp s' off => rw [he] at k; exact k

theorem VR.full {x : AV} {v : Value} (r : VR C g' x v) (h : x.under 0 = true) : VR C (ghF g g') x v :=
  r.on (n := 0) (g := g') (g' := ghF g g') ⟨fun _ _ _ h => h, fun _ _ h => absurd h (Nat.not_lt_zero _), fun _ _ _ h => absurd h (Nat.not_lt_zero _)⟩ h

theorem fzL_mv : ∀ {fs : List Fz} {vs : List AV} {g : Gh} {own : Own} {H : Heap} {ys : List AV} {H' : Heap} {ws : List Value}, St C g own B H w → vs.length = ws.length → (∀ (i : Nat) (x : AV) (y : Value), vs[i]? = some x → ws[i]? = some y → VR C g x y) →
    fzL fs H vs = some (ys, H') → ∃ g' own', Mv C B w g own H g' own' H' ∧ ys.length = ws.length ∧ ∀ (i : Nat) (x : AV) (y : Value), ys[i]? = some x → ws[i]? = some y → VR C g' x y
  | [], vs, g, own, H, ys, H', ws, hS, hl, hv, h => by
    simp only [fzL, Option.some.injEq, Prod.mk.injEq] at h
    obtain ⟨rfl, rfl⟩ := h
    exact ⟨g, own, .refl hS, hl, hv⟩
  | f :: fs, [], g, own, H, ys, H', ws, hS, hl, hv, h => by simp [fzL] at h
  | f :: fs, v :: vs, g, own, H, ys, H', [], hS, hl, hv, h => by simp at hl
  | f :: fs, v :: vs, g, own, H, ys, H', u :: ws, hS, hl, hv, h => by
    simp only [fzL] at h
    split at h
    · cases h
    · rename_i y H1 h1
      split at h
      · cases h
      · rename_i zs H2 h2
        simp only [Option.some.injEq, Prod.mk.injEq] at h
        obtain ⟨rfl, rfl⟩ := h
        have hu : VR C g v u := hv 0 v u (by simp) (by simp)
        obtain ⟨g1, own1, m1, r1⟩ := fzV_mv hS ⟨u, hu⟩ h1
        obtain ⟨g2, own2, m2, l2, r2⟩ := fzL_mv (fs := fs) (vs := vs) (ws := ws) m1.st (by simpa using hl) (fun i x y hx hy => (hv (i + 1) x y (by simpa using hx) (by simpa using hy)).mono m1.ext.le) h2
        refine ⟨g2, own2, m1.trans m2, by simp [l2], fun i x y hx hy => ?_⟩
        cases i with
        | zero => simp at hx hy; subst hx; subst hy; exact (r1.val _ hu).mono m2.ext.le
        | succ i => exact r2 i x y (by simpa using hx) (by simpa using hy)

theorem fzT_mv {fs : List Fz} {x x' : AV} {v : Value} (hS : St C g own B H w) (hv : VR C g x v) (h : fzT fs H x = some (x', H')) : ∃ g' own', Mv C B w g own H g' own' H' ∧ VR C g' x' v := by
  have other : fzO fs H x = some (x', H') → ∃ g' own', Mv C B w g own H g' own' H' ∧ VR C g' x' v := fun h => by
    unfold fzO at h
    split at h
    · simp only [Option.some.injEq, Prod.mk.injEq] at h
      obtain ⟨rfl, rfl⟩ := h
      exact ⟨g, own, .refl hS, hv⟩
    · obtain ⟨g1, own1, m, r⟩ := fzV_mv hS ⟨v, hv⟩ h
      exact ⟨g1, own1, m, r.val _ hv⟩
  cases x
  case tup vs =>
    simp only [fzT, Option.map_eq_some_iff] at h
    obtain ⟨⟨ys, H2⟩, h1, h2⟩ := h
    simp only [Prod.mk.injEq] at h2
    obtain ⟨rfl, rfl⟩ := h2
    cases hv with
    | tup _ ws hl hv =>
      obtain ⟨g1, own1, m, l1, r⟩ := fzL_mv (ws := ws.toList) hS (by simpa using hl) (fun i x y hx hy => hv i x y hx (by simpa using hy)) h1
      exact ⟨g1, own1, m, .tup _ _ (by simpa using l1) fun i x y hx hy => r i x y hx (by simpa using hy)⟩
  all_goals exact other h

theorem clpS_inv {cl : Caller} {f : Nat} {fz : List Fz} {vs : List AV} {v : AV} (h : clpS cl f fz vs = some v) : AV.underAll 0 vs = true ∧ ∃ u H' H'', cl f vs heap0 = some (.ret u H') ∧ fzT fz H' u = some (v, H'') ∧ v.under 0 = true := by
  unfold clpS at h
  split at h
  · rename_i hu
    split at h
    · rename_i u H' hc
      split at h
      · rename_i v' H'' hz
        split at h
        · rename_i hv
          simp only [Option.some.injEq] at h
          subst h
          exact ⟨hu, u, H', H'', hc, hz, hv⟩
        · cases h
      · cases h
    · cases h
  · cases h
end
end Ey

namespace Ey
open Go Go.RowKit

section
variable {C : Cx} {g : Gh} {own : Own} {B : Nat} {H : Heap} {w : World} {env : Env} {a : Act} {n : Nat} {L : List Nat}

structure Cont (C : Cx) (g : Gh) (own : Own) (B : Nat) (H : Heap) (w : World) (a : Act) (n : Nat) (L : List Nat) (out : Out) (K : Act → World → Prop) (Q : Exit → Act → World → Prop) : Prop where
  go : ∀ x e' H', out = .go x e' H' → ∀ g' own' w' a', Ext g own B H w g' own' H' w' → St C g' own' B H' w' → Fr C g' own' w' e' a'.tmps n L → a'.defers = a.defers → K a' w'
  pan : ∀ v e' H', out = .pan v e' H' → ∀ g' own' w' pv, Ext g own B H w g' own' H' w' → St C g' own' B H' w' → Fr C g' own' w' e' a.tmps n L → VR C g' v pv → Q (.panic [{ v := pv, recovered := false }]) a w'

theorem put_defers (d : Option Nat) (v : Value) : (a.put d v).defers = a.defers := by cases d <;> rfl

theorem wp_of_done {o : Oper} {d : Option Nat} (hd : o.dst = d) {e' : Env} {H' : Heap} {K : Act → World → Prop} {Q : Exit → Act → World → Prop} (hK : Cont C g own B H w a n L (.go .nrm e' H') K Q)
    (h : Done C g own B H w a n L d e' H' ((execOp a.eval o).run C.P w)) : o.wp C.P a w K Q := by
  obtain ⟨g', own', w', v, hr, hE, hS, hF⟩ := h
  subst hd
  unfold Oper.wp
  rcases hr with hr | ⟨hr, rfl⟩
  · rw [hr]; exact hK.go _ _ _ rfl g' own' w' _ hE hS hF (put_defers _ _)
  · rw [hr]; exact hK.go _ _ _ rfl g' own' w' _ hE hS hF (put_defers _ _)

theorem call_wp (hS : St C g own B H w) (hF : Fr C g own w env a.tmps n L) {cl : Caller} (hcl : CallsOK C cl) {o : Oper} {d : Option Nat} (hd : o.dst = d) (hdo : dstOK n L d) {f : Nat} {fid : FuncId} (hf : C.fm f = some fid) {vs : List AV} {ws : Array Value}
    (hl : vs.length = ws.size) (hv : ∀ (i : Nat) (x : AV) (y : Value), vs[i]? = some x → ws[i]? = some y → VR C g x y) (hrun : (execOp a.eval o).run C.P w = .ok (.enter fid ws) w) {r : CRes} (hr : cl f vs H = some r)
    {K : Act → World → Prop} {Q : Exit → Act → World → Prop} (hK : Cont C g own B H w a n L (match r with | .ret v H' => .go .nrm (setDst d (.v v) env) H' | .pan v H' => .pan v env H') K Q) : o.wp C.P a w K Q := by
  have hcalls := hcl f vs H r hr fid hf g (calleeOwn own) B w ws hS.callee (noSlots_callee own) hl hv
  unfold Oper.wp
  rw [hrun]
  subst hd
  refine hcalls.mono fun e w' h => ?_
  obtain ⟨g', own', hn, h⟩ := h
  cases r with
  | ret v H' =>
    obtain ⟨⟨rv, rfl, hrv⟩, hE, hS'⟩ := h
    exact hK.go _ _ _ rfl g' (backOwn own own') w' _ hE.back (hS.back hE hS') ((hF.back hE).put hdo (x := .v v) hrv rfl) (put_defers _ _)
  | pan v H' =>
    obtain ⟨⟨pv, rfl, hpv⟩, hE, hS'⟩ := h
    exact hK.pan _ _ _ rfl g' (backOwn own own') w' pv hE.back (hS.back hE hS') (hF.back hE) hpv

theorem callp_wp (hS : St C g own B H w) (hF : Fr C g own w env a.tmps n L) {cl : Caller} (hcl : CallsOK C cl) {o : Oper} {d : Option Nat} (hd : o.dst = d) (hdo : dstOK n L d) {f : Nat} {fid : FuncId} (hf : C.fm f = some fid) {vs : List AV} {ws : Array Value}
    (hl : vs.length = ws.size) (hv : ∀ (i : Nat) (x : AV) (y : Value), vs[i]? = some x → ws[i]? = some y → VR C g x y) (hrun : (execOp a.eval o).run C.P w = .ok (.enter fid ws) w) {fz : List Fz} {v : AV} (hr : clpS cl f fz vs = some v)
    {K : Act → World → Prop} {Q : Exit → Act → World → Prop} (hK : Cont C g own B H w a n L (.go .nrm (setDst d (.v v) env) H) K Q) : o.wp C.P a w K Q := by
  obtain ⟨hu, u, H', H'', hc, hz, hv0⟩ := clpS_inv hr
  have hcalls := hcl f vs heap0 _ hc fid hf (ghE g) (ownE own) B w ws hS.empty (ownE_no own).1 hl (fun i x y hx hy => (hv i x y hx hy).empty (underAll_get hu hx))
  unfold Oper.wp
  rw [hrun]
  subst hd
  refine hcalls.mono fun e w' h => ?_
  obtain ⟨g', own', hn, ⟨rv, rfl, hrv⟩, hE, hS'⟩ := h
  obtain ⟨g2, own2, m, hv2⟩ := fzT_mv hS' hrv hz
  have hE2 := hE.trans m.ext
  exact hK.go _ _ _ rfl (ghF g g2) (ownF own own2) w' _ hE2.full (hS.full hE2 m.st) ((hF.full hE2).put hdo (x := .v v) (hv2.full hv0) rfl) (put_defers _ _)

theorem run_enter (hfun : FunsOK C) {o : Oper} {c : Call} (ho : o.op = .call c) {y : Operand} (hc : c.callee = .value y) {fid : FuncId} {cap : Array Value} (hy : a.eval y = .func (.func fid) #[] cap) {f : Nat} (hf : C.fm f = some fid) :
    (execOp a.eval o).run C.P w = .ok (.enter fid (c.args.map a.eval ++ cap)) w := by
  obtain ⟨fn, body, h1, h2, h3⟩ := hfun f fid hf
  obtain ⟨dst, op, type, pos, after, guard⟩ := o
  simp only at ho
  subst ho
  obtain ⟨callee, args, ats⟩ := c
  simp only at hc
  subst hc
  simp [execOp, resolve, hy, Deferred.ofValue, invoke, callFunc, h1, h2, h3]

def isPv : AOp → Bool
  | .alv _ | .blv .. | .aob _ | .bob .. | .st .. | .sto .. | .app .. | .apz .. | .mks .. | .mkm .. | .cpy .. | .clr .. | .thaw .. | .frz .. | .call .. | .callc .. | .callv .. | .callp .. | .pan _ | .mkmp | .mpu .. => false
  | _ => true

theorem chkPure_pv {op : Op} {aop : AOp} (h : chkPure C op aop = true) : isPv aop = true := by
  unfold chkPure at h
  split at h <;> first | rfl | cases h

theorem cvb_opv {x : Opd} {q : Sl} (h : opv env H (.cvb x) = some q) : ∃ z ys l, env.av x = some z ∧ (∀ s, z ≠ .str s) ∧ elemsOf H 1 z = some ys ∧ ys.mapM byteOf = some l ∧ q = .v (.str l) := by
  simp only [opv] at h
  split at h
  · rename_i nl xs hx
    simp only [Option.map_eq_some_iff] at h
    obtain ⟨l, hl, rfl⟩ := h
    refine ⟨_, xs, l, hx, (fun s e => by cases e), ?_, hl, rfl⟩
    simp only [elemsOf]
    rw [if_pos (List.all_eq_true.2 fun y hy => by simpa using (bytes_cells hl).1 y hy)]
  · rename_i hx
    simp only [Option.some.injEq] at h
    subst h
    exact ⟨_, [], [], hx, (fun s e => by cases e), rfl, rfl, rfl⟩
  · rename_i id ver lo len hx
    split at h
    · rename_i nl xs hg
      split at h
      · rename_i hcond
        simp only [Option.map_eq_some_iff] at h
        obtain ⟨l, hl, rfl⟩ := h
        refine ⟨_, _, l, hx, (fun s e => by cases e), ?_, hl, rfl⟩
        simp only [elemsOf, hg]
        rw [if_pos ⟨trivial, hcond.1, hcond.2⟩]
      · cases h
    · cases h
  · cases h

theorem putAt_same {cs new : List AV} {off sz : Nat} (h : (cs.drop off).take sz = new) (hl : off + new.length ≤ cs.length) : putAt cs off new = cs := by
  unfold putAt
  subst h
  rw [List.length_take, List.length_drop] at hl ⊢
  have h1 : (cs.drop off).take sz ++ cs.drop (off + min sz (cs.length - off)) = cs.drop off := by
    have : cs.drop (off + min sz (cs.length - off)) = (cs.drop off).drop sz := by
      rw [List.drop_drop]
      by_cases hs : sz ≤ cs.length - off
      · rw [Nat.min_eq_left hs]
      · rw [List.drop_eq_nil_of_le (by omega), List.drop_eq_nil_of_le (by omega)]
    rw [this, List.take_append_drop]
  rw [List.append_assoc, h1, List.take_append_drop]

theorem sts_opv {sz : Nat} {x v : Opd} {q : Sl} (h : opv env H (.sts sz x v) = some q) : ∃ id off z cs, env.sl x = .v (.ptr id off) ∧ env.av v = some z ∧ H.ro ≤ id ∧ z.cells.length = sz ∧ H.get id = some (.obj cs) ∧ (cs.drop off).take sz = z.cells ∧ q = .un := by
  simp only [opv] at h
  split at h
  · rename_i id off z h1 h2
    split at h
    · rename_i h3
      split at h
      · rename_i cs hg
        split at h
        · rename_i hs
          simp only [Option.some.injEq] at h
          exact ⟨id, off, z, cs, h1, h2, h3.1, h3.2, hg, AV.sames_eq hs, h.symm⟩
        · cases h
      · cases h
    · cases h
  · cases h

theorem mpl_opv {n : Nat} {z : AV} {ok : Bool} {m k : Opd} {q : Sl} (h : opv env H (.mpl n z ok m k) = some q) : ∃ id kv es r, env.av m = some (.mp id) ∧ env.av k = some kv ∧ keyOK n kv = true ∧ H.get id = some (.map es) ∧ mpFind kv es 0 = some r ∧
    q = .v (lkV ok z r) := by
  simp only [opv] at h
  split at h
  · rename_i id kv h1 h2
    split at h
    · rename_i h3
      split at h
      · rename_i es hg
        split at h
        · rename_i i x hf
          simp only [Option.some.injEq] at h
          exact ⟨id, kv, es, _, h1, h2, h3, hg, hf, h.symm⟩
        · rename_i hf
          simp only [Option.some.injEq] at h
          exact ⟨id, kv, es, _, h1, h2, h3, hg, hf, h.symm⟩
        · cases h
      · cases h
    · cases h
  · cases h

set_option maxHeartbeats 1600000 in
theorem op_sim (hfun : FunsOK C) (hS : St C g own B H w) (hF : Fr C g own w env a.tmps n L) {cl : Caller} (hcl : CallsOK C cl) {o : Oper} {d : Option Nat} (hd : o.dst = d) {aop : AOp} (hc : chkSt C n L o.op d aop = true) {out : Out}
    (hop : opS cl d env H aop = some out) {K : Act → World → Prop} {Q : Exit → Act → World → Prop} (hK : Cont C g own B H w a n L out K Q) : o.wp C.P a w K Q := by
  have ho : o = ⟨o.dst, o.op, o.type, o.pos, o.after, o.guard⟩ := rfl
  unfold chkSt at hc
  split at hc
  -- alloc: a local variable
  case h_1 t cs hopp =>
    simp only [Bool.and_eq_true] at hc
    obtain ⟨hz, hdd⟩ := hc
    split at hdd
    · rename_i s
      simp only [Bool.and_eq_true, decide_eq_true_eq] at hdd
      obtain ⟨v, hv1, hv2⟩ := zeroCells_run hz g
      simp only [opS] at hop
      split at hop
      · simp at hop
      · rename_i hnl
        simp only [Option.some.injEq] at hop
        subst hop
        refine wp_of_done hd hK ?_
        have hrun : (execOp a.eval o).run C.P w = .ok (.value (.pointer (some ⟨w.heap.size, 0, none⟩))) (w.alloc (.cells v.cells t)) := by
          rw [ho, hopp]
          simp [execOp, Instr.alloc, hv1, newVar, newRow]
        rw [hrun]
        exact done_lv hS hF hdd.1 (by simpa using hdd.2) (fun cs' e => hnl cs' e) hv2 t
    · simp at hdd
  case h_2 t x sz y hopp =>
    simp only [Bool.and_eq_true, decide_eq_true_eq] at hc
    obtain ⟨⟨hx, h0⟩, hdd⟩ := hc
    split at hdd
    · rename_i s
      simp only [Bool.and_eq_true, decide_eq_true_eq] at hdd
      simp only [opS] at hop
      split at hop
      · rename_i s' v hs' hv
        simp at hs'; subst hs'
        split at hop
        · simp at hop
        · rename_i hnl
          split at hop
          · rename_i hl
            simp only [Option.some.injEq] at hop
            subst hop
            refine wp_of_done hd hK ?_
            have hr := av_rel hF hx hv
            have hrun : (execOp a.eval o).run C.P w = .ok (.value (.pointer (some ⟨w.heap.size, 0, none⟩))) (w.alloc (.cells (a.eval x).cells t)) := by
              rw [ho, hopp]
              simp [execOp, Instr.box, newVar, newRow]
            rw [hrun]
            exact done_lv hS hF hdd.1 (by simpa using hdd.2) (fun cs' e => hnl cs' e) (VR.cells hr (.inl (by intro e; rw [e] at hl; simp at hl; omega))) t
          · simp at hop
      · simp at hop
    · simp at hdd
  case h_3 t x sz y hopp =>
    simp only [Bool.and_eq_true, decide_eq_true_eq] at hc
    obtain ⟨⟨hdd, hx⟩, h0⟩ := hc
    simp only [opS, opv] at hop
    split at hop
    · rename_i q hq
      split at hq
      · rename_i v hv
        split at hq
        · rename_i hl
          simp only [Option.some.injEq] at hq hop
          subst hq; subst hop
          refine wp_of_done hd hK ?_
          have hr := av_rel hF hx hv
          have hne : v.cells ≠ [] := by intro e; rw [e] at hl; simp at hl; omega
          have hrun : (execOp a.eval o).run C.P w = .ok (.value (.pointer (some ⟨w.heap.size, 0, none⟩))) (w.alloc (.cells (a.eval x).cells t)) := by
            rw [ho, hopp]
            simp [execOp, Instr.box, newVar, newRow]
          rw [hrun]
          exact done_imm hS hF (dstOKb_is hdd) hne (VR.cells hr (.inl hne)) t
        · simp at hq
      · simp at hq
    · simp at hop
  case h_4 t cs hopp =>
    simp only [Bool.and_eq_true] at hc
    obtain ⟨hdd, hz⟩ := hc
    obtain ⟨v, hv1, hv2⟩ := zeroCells_run hz g
    simp only [opS, Option.some.injEq] at hop
    subst hop
    refine wp_of_done hd hK ?_
    have hrun : (execOp a.eval o).run C.P w = .ok (.value (.pointer (some ⟨w.heap.size, 0, none⟩))) (w.alloc (.cells v.cells t)) := by
      rw [ho, hopp]
      simp [execOp, Instr.alloc, hv1, newVar, newRow]
    rw [hrun]
    exact done_obj hS hF (dstOKb_is hdd) hv2 t
  case h_5 t x sz y hopp =>
    simp only [Bool.and_eq_true, decide_eq_true_eq] at hc
    obtain ⟨⟨hdd, hx⟩, h0⟩ := hc
    simp only [opS] at hop
    split at hop
    · rename_i v hv
      split at hop
      · rename_i hl
        simp only [Option.some.injEq] at hop
        subst hop
        refine wp_of_done hd hK ?_
        have hr := av_rel hF hx hv
        have hne : v.cells ≠ [] := by intro e; rw [e] at hl; simp at hl; omega
        have hrun : (execOp a.eval o).run C.P w = .ok (.value (.pointer (some ⟨w.heap.size, 0, none⟩))) (w.alloc (.cells (a.eval x).cells t)) := by
          rw [ho, hopp]
          simp [execOp, Instr.box, newVar, newRow]
        rw [hrun]
        exact done_obj hS hF (dstOKb_is hdd) (VR.cells hr (.inl hne)) t
      · simp at hop
    · simp at hop
  case h_6 t m ps z k qs hopp =>
    simp only [Bool.and_eq_true, beq_iff_eq] at hc
    obtain ⟨⟨⟨hdd, rfl⟩, hp⟩, ht⟩ := hc
    split at ht
    · rename_i e hu
      simp only [Bool.and_eq_true, decide_eq_true_eq] at ht
      simp only [opS, opv] at hop
      split at hop
      · rename_i q hq
        split at hq
        · rename_i rs hrs
          simp only [Option.map_eq_some_iff] at hq
          obtain ⟨xs, hxs, rfl⟩ := hq
          simp only [Option.some.injEq] at hop
          subst hop
          refine wp_of_done hd hK ?_
          obtain ⟨r, h1, h2⟩ := mkl_done hS hF (dstOKb_is hdd) hu ht.1 ht.2 hp hrs hxs
          rw [ho, hopp]
          rw [← h1] at h2
          exact h2
        · simp at hq
      · simp at hop
    · simp at ht
  case h_7 t x v sz x' v' hopp =>
    simp only [Bool.and_eq_true, beq_iff_eq] at hc
    obtain ⟨⟨⟨hdd, hs⟩, hx⟩, hv⟩ := hc
    subst hdd
    obtain ⟨hsz, h0⟩ := sizeIs_run hs w
    simp only [opS] at hop
    split at hop
    · rename_i z hz
      split at hop
      · rename_i hl
        split at hop
        · rename_i e' H' hst
          simp only [Option.some.injEq] at hop
          subst hop
          refine wp_of_done hd hK ?_
          obtain ⟨r, h1, h2⟩ := st_done hS hF hsz h0 hx hv hz hl hst
          rw [ho, hopp]
          rw [← h1] at h2
          exact h2
        · simp at hop
      · simp at hop
    · simp at hop
  case h_8 t x v sz x' v' hopp =>
    simp only [Bool.and_eq_true, beq_iff_eq] at hc
    obtain ⟨⟨⟨hdd, hs⟩, hx⟩, hv⟩ := hc
    subst hdd
    obtain ⟨hsz, h0⟩ := sizeIs_run hs w
    simp only [opS] at hop
    split at hop
    · rename_i y hy
      split at hop
      · rename_i z hz
        split at hop
        · rename_i hl
          split at hop
          · rename_i e' H' hst
            simp only [Option.some.injEq] at hop
            subst hop
            have he : e' = env := by
              cases y <;> simp only [stS] at hst <;> try (cases hst; done)
              all_goals
                repeat' (split at hst)
                all_goals first | (cases hst; done) | (simp only [Option.some.injEq, Prod.mk.injEq] at hst; exact hst.1.symm)
            subst he
            refine wp_of_done hd hK ?_
            obtain ⟨r, h1, h2⟩ := st_done hS hF hsz h0 hx hv hz hl (by rw [hy]; exact hst)
            rw [ho, hopp]
            rw [← h1] at h2
            exact h2
          · simp at hop
        · simp at hop
      · simp at hop
    · simp at hop
  case h_9 t l c sz z y hopp =>
    simp only [Bool.and_eq_true] at hc
    obtain ⟨⟨⟨hdd, ht⟩, hl⟩, hcc⟩ := hc
    simp only [opS] at hop
    split at hop
    · rename_i kd k hk
      split at hop
      · rename_i hcond
        simp only [Option.some.injEq] at hop
        subst hop
        refine wp_of_done hd hK ?_
        have h1 := av_rel hF hl hk
        have h2 := av_rel hF hcc hk
        have h3 : a.eval c = a.eval l := by
          generalize a.eval l = u at h1 ⊢
          generalize a.eval c = u' at h2 ⊢
          cases h1; cases h2; rfl
        obtain ⟨r, h4, h5⟩ := mks_done hS hF (dstOKb_is hdd) ht h1 hcond.1 hcond.2.1
        rw [ho, hopp]
        rw [← h4] at h5
        simp only [execOp, h3]
        exact h5
      · simp at hop
    · simp at hop
  case h_10 c sz b x hopp =>
    simp only [Bool.and_eq_true] at hc
    obtain ⟨hdd, hc⟩ := hc
    split at hc
    · rename_i s y t tx hb
      simp only [Bool.and_eq_true] at hc
      obtain ⟨⟨ht, h1⟩, h2⟩ := hc
      have := asBuiltin_is hb
      subst this
      simp only [opS] at hop
      split at hop
      · rename_i u v hu hv
        split at hop
        · rename_i r H' happ
          simp only [Option.some.injEq] at hop
          subst hop
          refine wp_of_done hd hK ?_
          obtain ⟨res, h3, h4⟩ := app_done (ty := o.type) hS hF (dstOKb_is hdd) ht (av_rel hF h1 hu) (av_rel hF h2 hv) happ
          rw [← h3] at h4
          rw [run_builtin hopp]
          simpa [Go.builtin] using h4
        · simp at hop
      · simp at hop
    · simp at hc
  case h_11 c f ys hopp =>
    simp only [Bool.and_eq_true] at hc
    obtain ⟨hdd, hc⟩ := hc
    split at hc
    · rename_i fid hcal
      simp only [Bool.and_eq_true, beq_iff_eq] at hc
      obtain ⟨hf, hys⟩ := hc
      simp only [opS] at hop
      split at hop
      · rename_i vs hvs
        obtain ⟨h1, h2⟩ := all_rel hF hys hvs
        have hrun := run_enter (w := w) (a := a) hfun hopp hcal (y := .func fid) (fid := fid) (cap := #[]) rfl hf
        split at hop
        · rename_i v H' hr
          simp only [Option.some.injEq] at hop
          subst hop
          exact call_wp hS hF hcl hd (dstOKb_is hdd) hf (ws := c.args.map a.eval ++ #[]) (by simp [h1]) (fun i x y hx hy => h2 i x y hx (by simpa using hy)) hrun hr hK
        · rename_i v H' hr
          simp only [Option.some.injEq] at hop
          subst hop
          exact call_wp hS hF hcl hd (dstOKb_is hdd) hf (ws := c.args.map a.eval ++ #[]) (by simp [h1]) (fun i x y hx hy => h2 i x y hx (by simpa using hy)) hrun hr hK
        · simp at hop
      · simp at hop
    · simp at hc
  case h_12 c f ys cs hopp =>
    simp only [Bool.and_eq_true] at hc
    obtain ⟨hdd, hc⟩ := hc
    split at hc
    · rename_i fid hcal
      simp only [Bool.and_eq_true, beq_iff_eq] at hc
      obtain ⟨hf, hys⟩ := hc
      simp only [opS] at hop
      split at hop
      · rename_i vs hvs
        obtain ⟨h1, h2⟩ := all_rel hF hys hvs
        have hrun := run_enter (w := w) (a := a) hfun hopp hcal (y := .func fid) (fid := fid) (cap := #[]) rfl hf
        split at hop
        · rename_i v H' hr
          split at hop
          · simp only [Option.some.injEq] at hop
            subst hop
            exact call_wp hS hF hcl hd (dstOKb_is hdd) hf (ws := c.args.map a.eval ++ #[]) (by simp [h1]) (fun i x y hx hy => h2 i x y hx (by simpa using hy)) hrun hr hK
          · simp at hop
        · simp at hop
      · simp at hop
    · simp at hc
  case h_13 c x ys hopp =>
    simp only [Bool.and_eq_true] at hc
    obtain ⟨hdd, hc⟩ := hc
    split at hc
    · rename_i y hcal
      simp only [Bool.and_eq_true] at hc
      obtain ⟨hx, hys⟩ := hc
      simp only [opS] at hop
      split at hop
      · rename_i f cap vs hfx hvs
        obtain ⟨h1, h2⟩ := all_rel hF hys hvs
        have hr := av_rel hF hx hfx
        generalize hev : a.eval y = vy at hr
        cases hr with
        | fn _ _ fid us hf hl hv =>
          have hrun := run_enter (w := w) (a := a) hfun hopp hcal hev hf
          have h1' : vs.length = c.args.size := by simpa using h1
          have hrel : ∀ (i : Nat) (x : AV) (z : Value), (vs ++ cap)[i]? = some x → (c.args.map a.eval ++ us)[i]? = some z → VR C g x z := fun i x z hx hz => by
            by_cases hi : i < vs.length
            · rw [List.getElem?_append_left hi] at hx
              rw [Array.getElem?_append_left (by simp; omega)] at hz
              exact h2 i x z hx (by simpa using hz)
            · rw [List.getElem?_append_right (by omega)] at hx
              rw [Array.getElem?_append_right (by simp; omega)] at hz
              have e : i - vs.length = i - (c.args.map a.eval).size := by simp [h1]
              rw [e] at hx
              exact hv _ x z hx hz
          split at hop
          · rename_i v H' hr
            simp only [Option.some.injEq] at hop
            subst hop
            exact call_wp hS hF hcl hd (dstOKb_is hdd) hf (ws := c.args.map a.eval ++ us) (by simp [h1, hl]) hrel hrun hr hK
          · rename_i v H' hr
            simp only [Option.some.injEq] at hop
            subst hop
            exact call_wp hS hF hcl hd (dstOKb_is hdd) hf (ws := c.args.map a.eval ++ us) (by simp [h1, hl]) hrel hrun hr hK
          · simp at hop
      · simp at hop
    · simp at hc
  case h_14 x y hopp =>
    simp only [opS] at hop
    split at hop
    · rename_i t v hv
      simp only [Option.some.injEq] at hop
      subst hop
      have hr := av_rel hF hc hv
      unfold Oper.wp
      have hrun : (execOp a.eval o).run C.P w = .halt (.panic (a.eval x)) w := by
        rw [ho, hopp]
        simp only [execOp]
        generalize a.eval x = vx at hr
        cases hr
        simp [Instr.panic]
      rw [hrun]
      exact hK.pan _ _ _ rfl g own w _ (.refl _ _ _ _ _) hS hF hr
    · simp at hop
  case h_15 t m ps z k qs hopp =>
    simp only [Bool.and_eq_true, beq_iff_eq] at hc
    obtain ⟨⟨⟨hdd, rfl⟩, hp⟩, ht⟩ := hc
    split at ht
    · rename_i e hu
      simp only [Bool.and_eq_true, decide_eq_true_eq] at ht
      simp only [opS] at hop
      split at hop
      · rename_i rs hrs
        split at hop
        · rename_i xs hxs
          simp only [Option.some.injEq] at hop
          subst hop
          refine wp_of_done hd hK ?_
          obtain ⟨r, h1, h2⟩ := mkm_done hS hF (dstOKb_is hdd) hu ht.1 ht.2 hp hrs hxs
          rw [ho, hopp]
          rw [← h1] at h2
          exact h2
        · simp at hop
      · simp at hop
    · simp at ht
  case h_16 c sz z x hopp =>
    simp only [Bool.and_eq_true] at hc
    obtain ⟨hdd, hc⟩ := hc
    split at hc
    · rename_i y t hb
      simp only [Bool.and_eq_true] at hc
      obtain ⟨ht, h1⟩ := hc
      have := asBuiltin_is hb
      subst this
      simp only [opS] at hop
      split at hop
      · rename_i id ver lo len hu
        split at hop
        · simp at hop
        · rename_i hro
          split at hop
          · rename_i nl k xs hg
            split at hop
            · rename_i hcond
              obtain ⟨rfl, hzl, hver, hfit⟩ := hcond
              simp only [Option.some.injEq] at hop
              subst hop
              refine wp_of_done hd hK ?_
              obtain ⟨res, h3, h4⟩ := clr_done (ty := o.type) hS hF (dstOKb_is hdd) ht (av_rel hF h1 hu) hg (by omega) hver hfit
              rw [← h3] at h4
              rw [run_builtin hopp]
              simpa [Go.builtin] using h4
            · simp at hop
          · simp at hop
      · simp at hop
    · simp at hc
  case h_17 c sz z b x hopp =>
    simp only [Bool.and_eq_true] at hc
    obtain ⟨hdd, hc⟩ := hc
    split at hc
    · rename_i s y t tx hb
      simp only [Bool.and_eq_true] at hc
      obtain ⟨⟨ht, h1⟩, h2⟩ := hc
      have := asBuiltin_is hb
      subst this
      simp only [opS] at hop
      split at hop
      · rename_i k hu hv
        split at hop
        · rename_i hcond
          simp only [Option.some.injEq] at hop
          subst hop
          refine wp_of_done hd hK ?_
          obtain ⟨res, h3, h4⟩ := apz_done (ty := o.type) hS hF (dstOKb_is hdd) ht (av_rel hF h1 hu) rfl (av_rel hF h2 hv) hcond.1 hcond.2.1
          rw [← h3] at h4
          rw [run_builtin hopp]
          simpa [Go.builtin] using h4
        · simp at hop
      · simp at hop
    · simp at hc
  case h_18 t x v x' v' hopp =>
    simp only [Bool.and_eq_true, beq_iff_eq] at hc
    obtain ⟨⟨⟨hdd, hs⟩, hx⟩, hv⟩ := hc
    subst hdd
    have hsz := sizeNone_run hs w
    simp only [opS, opv] at hop
    split at hop
    · rename_i y hy
      simp only [Option.some.injEq] at hop
      subst hop
      split at hy
      · rename_i s off hsl hval
        simp only [Option.some.injEq] at hy
        subst hy
        have hv' := av_rel hF hv hval
        have hs' := sl_rel hF hx hsl (by simp)
        refine wp_of_done hd hK ⟨g, own, w, undef, .inr ⟨?_, rfl⟩, Ext.refl g own B H w, hS, hF⟩
        rw [ho, hopp]
        show (do Instr.storeAt t (a.eval x) (a.eval v); pure Next.skip : Sem Next).run C.P w = .ok .skip w
        obtain ⟨cs, b, o', h1, h2, h3⟩ := hs'
        rw [h3]
        generalize a.eval v = vy at hv' ⊢
        cases hv' with
        | agg _ ws hl _ _ =>
          have he : ws = #[] := by
            apply Array.eq_empty_of_size_eq_zero
            simpa using hl.symm
          subst he
          simp [Instr.storeAt, Instr.sureAddr, storeVar, hsz, Value.cells, storeCells]
      · cases hy
    · simp at hop
  case h_19 s t x y hopp =>
    simp only [Bool.and_eq_true] at hc
    obtain ⟨⟨⟨hdd, hs⟩, ht⟩, hx⟩ := hc
    simp only [opS] at hop
    split at hop
    · rename_i q hq
      simp only [Option.some.injEq] at hop
      subst hop
      refine wp_of_done hd hK ?_
      obtain ⟨z, ys, l, hz, hn, hy, hb, rfl⟩ := cvb_opv hq
      obtain ⟨r, h1, h2⟩ := cvb_sim hS hs ht (av_rel hF hx hz) hn hy hb
      have hrun : (execOp a.eval o).run C.P w = .ok (.value r) w := by
        rw [ho, hopp]
        exact run_value (C := C) (o := ⟨o.dst, .convert s t x, o.type, o.pos, o.after, o.guard⟩) (s := Go.convert s t (a.eval x)) rfl h1
      exact done_pure hS hF (dstOKb_is hdd) hrun (x := .v (.str l)) h2 rfl
    · simp at hop
  case h_20 s t x y hopp =>
    simp only [Bool.and_eq_true] at hc
    obtain ⟨⟨⟨hdd, hs⟩, ht⟩, hx⟩ := hc
    simp only [opS, opv] at hop
    split at hop
    · rename_i q hq
      simp only [Option.some.injEq] at hop
      subst hop
      split at hq
      · rename_i l hl
        simp only [Option.some.injEq] at hq
        subst hq
        refine wp_of_done hd hK ?_
        obtain ⟨r, w1, h1, h2⟩ := cvs_done hS hF (dstOKb_is hdd) hs ht (av_rel hF hx hl)
        have hrun : (execOp a.eval o).run C.P w = .ok (.value r) w1 := by
          rw [ho, hopp]
          show (do pure (Next.value (← Go.convert s t (a.eval x))) : Sem Next).run C.P w = _
          simp [h1]
        rw [hrun]
        exact h2
      · cases hq
    · simp at hop
  case h_21 t x v sz x' v' hopp =>
    simp only [Bool.and_eq_true, beq_iff_eq] at hc
    obtain ⟨⟨⟨hdd, hs⟩, hx⟩, hv⟩ := hc
    subst hdd
    obtain ⟨hsz, h0⟩ := sizeIs_run hs w
    simp only [opS] at hop
    split at hop
    · rename_i q hq
      simp only [Option.some.injEq] at hop
      subst hop
      obtain ⟨id, off, z, cs, hy, hz, hro, hl, hg, hcs, rfl⟩ := sts_opv hq
      refine wp_of_done hd hK ?_
      have hlen := congrArg List.length hcs
      simp only [List.length_take, List.length_drop] at hlen
      have hst : stS env H z.cells (env.sl x') = some (env, H) := by
        rw [hy]
        simp only [stS]
        rw [if_neg (by omega), hg]
        simp only
        rw [if_pos (by omega), putAt_same hcs (by omega), Heap.put_same hg]
      obtain ⟨r, h1, h2⟩ := st_done hS hF hsz h0 hx hv hz hl hst
      rw [ho, hopp]
      rw [← h1] at h2
      exact h2
    · simp at hop
  case h_22 t hopp =>
    simp only [opS, Option.some.injEq] at hop
    subst hop
    refine wp_of_done hd hK ?_
    have hrun : (execOp a.eval o).run C.P w = .ok (.value (.map (some w.heap.size))) (w.alloc (.map #[] 0)) := by
      rw [ho, hopp]
      have hmk : (Instr.makeMap t none).run C.P w = .ok (.map (some w.heap.size)) (w.alloc (.map #[] 0)) := rfl
      simp [execOp, hmk]
    rw [hrun]
    exact mkmp_done hS hF (dstOKb_is hc)
  case h_23 t x k ok m z ok' x' k' hopp =>
    simp only [Bool.and_eq_true, beq_iff_eq] at hc
    obtain ⟨⟨⟨⟨hdd, rfl⟩, hx⟩, hk⟩, ht⟩ := hc
    unfold mapLookOK at ht
    split at ht
    · rename_i kt et hu
      simp only [Bool.and_eq_true] at ht
      obtain ⟨ht, hz⟩ := ht
      simp only [opS] at hop
      split at hop
      · rename_i q hq
        simp only [Option.some.injEq] at hop
        subst hop
        obtain ⟨id, kv, es, r, h1, h2, h3, h4, h5, rfl⟩ := mpl_opv hq
        obtain ⟨zv, hz1, hz2⟩ := zero_run hz g w
        obtain ⟨v, k1, k2⟩ := mpl_sim (w := w) hS hu ht hz1 hz2 h3 h4 h5 (av_rel hF hx h1) (av_rel hF hk h2) ok
        refine wp_of_done hd hK ?_
        have hrun : (execOp a.eval o).run C.P w = .ok (.value v) w := by
          rw [ho, hopp]
          exact run_value (C := C) (o := ⟨o.dst, .lookup t x k ok, o.type, o.pos, o.after, o.guard⟩) (s := Instr.lookup t (a.eval x) (a.eval k) ok) rfl k1
        exact done_pure hS hF (dstOKb_is hdd) hrun (x := .v _) k2 rfl
      · simp at hop
    · cases ht
  case h_24 t x k v m x' k' v' hopp =>
    simp only [Bool.and_eq_true, beq_iff_eq] at hc
    obtain ⟨⟨⟨⟨hdd, hx⟩, hk⟩, hv⟩, ht⟩ := hc
    subst hdd
    unfold mapTyOK at ht
    split at ht
    · rename_i kt et hu
      simp only [opS] at hop
      split at hop
      · rename_i id kv y h1 h2 h3
        split at hop
        · rename_i hcond
          split at hop
          · rename_i es hg
            split at hop
            · rename_i i y0 hf
              simp only [Option.some.injEq] at hop
              subst hop
              refine wp_of_done hd hK ?_
              obtain ⟨res, h4, h5⟩ := mpu_done hS hF rfl hu ht hcond.1 hcond.2 hg hf (av_rel hF hx h1) (av_rel hF hk h2) (av_rel hF hv h3)
              rw [← h4] at h5
              rw [ho, hopp]
              exact h5
            · rename_i hf
              simp only [Option.some.injEq] at hop
              subst hop
              refine wp_of_done hd hK ?_
              obtain ⟨res, h4, h5⟩ := mpu_done hS hF rfl hu ht hcond.1 hcond.2 hg hf (av_rel hF hx h1) (av_rel hF hk h2) (av_rel hF hv h3)
              rw [← h4] at h5
              rw [ho, hopp]
              exact h5
            · simp at hop
          · simp at hop
        · simp at hop
      · simp at hop
    · cases ht
  case h_25 c sz x z hopp =>
    simp only [Bool.and_eq_true] at hc
    obtain ⟨hdd, hc⟩ := hc
    split at hc
    · rename_i x' z' t t2 hb
      simp only [Bool.and_eq_true] at hc
      obtain ⟨⟨ht, h1⟩, h2⟩ := hc
      have := asBuiltin_is hb
      subst this
      simp only [opS] at hop
      split at hop
      · rename_i id ver lo len v hu hv
        split at hop
        · simp at hop
        · rename_i hro
          split at hop
          · rename_i ys nl k xs hy hg
            split at hop
            · rename_i hcond
              obtain ⟨rfl, hver, hfit⟩ := hcond
              simp only [Option.some.injEq] at hop
              subst hop
              refine wp_of_done hd hK ?_
              obtain ⟨res, h3, h4⟩ := cpy_done (t2 := t2) (ty := o.type) hS hF (dstOKb_is hdd) ht (av_rel hF h1 hu) (av_rel hF h2 hv) hy hg (by omega) hver hfit
              rw [← h3] at h4
              rw [run_builtin hopp]
              simpa [Go.builtin] using h4
            · simp at hop
          · simp at hop
      · simp at hop
    · simp at hc
  case h_26 c f fz ys hopp =>
    simp only [Bool.and_eq_true] at hc
    obtain ⟨hdd, hc⟩ := hc
    split at hc
    · rename_i fid hcal
      simp only [Bool.and_eq_true, beq_iff_eq] at hc
      obtain ⟨hf, hys⟩ := hc
      simp only [opS] at hop
      split at hop
      · rename_i vs hvs
        obtain ⟨h1, h2⟩ := all_rel hF hys hvs
        have hrun := run_enter (w := w) (a := a) hfun hopp hcal (y := .func fid) (fid := fid) (cap := #[]) rfl hf
        split at hop
        · rename_i v hr
          simp only [Option.some.injEq] at hop
          subst hop
          exact callp_wp hS hF hcl hd (dstOKb_is hdd) hf (ws := c.args.map a.eval ++ #[]) (by simp [h1]) (fun i x y hx hy => h2 i x y hx (by simpa using hy)) hrun hr hK
        · simp at hop
      · simp at hop
    · simp at hc
  case h_27 =>
    rename_i aop0 _ _ _ _ _ _ _ _ _ _ _ _ _ _ _ _ _ _ _ _ _ _ _ _ _ _ _ _
    simp only [Bool.and_eq_true] at hc
    obtain ⟨hdd, hc⟩ := hc
    have key : ∀ x, opv env H aop0 = some x → out = .go .nrm (setDst d x env) H → o.wp C.P a w K Q := fun x hx he => by
      subst he
      obtain ⟨v, h1, h2, h3⟩ := opv_sim hS hF hc (opv_base hx)
      exact wp_of_done hd hK (done_pure hS hF (dstOKb_is hdd) h1 h2 h3)
    have hpure : opS cl d env H aop0 = match opv env H aop0 with
        | some x => some (.go .nrm (setDst d x env) H)
        | none => none := by
      have hpv := chkPure_pv hc
      cases aop0 <;> first | rfl | (simp only [AOp.base, isPv, Bool.false_eq_true] at hpv)
    rw [hpure] at hop
    split at hop
    · rename_i x hx
      simp only [Option.some.injEq] at hop
      exact key x hx hop.symm
    · simp at hop
end
end Ey

namespace Ey
open Go Go.RowKit

def exOf : Ex → Exit
  | .nrm => .normal
  | .exit i => .exit i
  | .ret => .ret

def OutR (C : Cx) (g : Gh) (own : Own) (B : Nat) (H : Heap) (w : World) (n : Nat) (L : List Nat) (df : List Deferred) : Out → Exit → Act → World → Prop
  | .go x e' H', ex, a', w' => ex = exOf x ∧ a'.defers = df ∧ ∃ g' own', Ext g own B H w g' own' H' w' ∧ St C g' own' B H' w' ∧ Fr C g' own' w' e' a'.tmps n L
  | .pan v e' H', ex, a', w' => ∃ pv, ex = .panic [{ v := pv, recovered := false }] ∧ a'.defers = df ∧ ∃ g' own', Ext g own B H w g' own' H' w' ∧ St C g' own' B H' w' ∧ Fr C g' own' w' e' a'.tmps n L ∧ VR C g' v pv

def guardOK (ops : Array Oper) (n : Nat) (L : List Nat) (d : Option Nat) : Option (Nat × Bool) → Option (Nat × Bool) → Bool
  | none, none => true
  | some (j, w), some (s, w') => w == w' && (ops[j]?).bind (·.dst) == some s && decide (s < n) && dstOKb n L d
  | _, _ => false

def chkPair (C : Cx) (n : Nat) (L : List Nat) (ops : Array Oper) (os : List Oper) (i j : AInstr) : Bool :=
  match os, i.dst, j.dst, i.op, j.op with
  | o :: p :: _, some d, some k, .mkl z m qs, .cvl (.t d') => match o.op, p.op with
    | .buildSlice t m' ps, .convert s s' (.tmp d'') => o.dst == some d && p.dst == some k && d' == d && d'' == d && d != k && i.guard == j.guard && (match i.guard with | some (q, _) => q != d | none => true) &&
        guardOK ops n L (some d) o.guard i.guard && guardOK ops n L (some k) p.guard j.guard && s == s' && bytesTy C.P s &&
        dstOKb n L (some d) && dstOKb n L (some k) && m' == m && partsMOK C ps.toList qs && (match C.P.underlying t with
          | some (.slice e) => zeroTy C.P e z.cells.length z && decide (m * z.cells.length ≤ 2 ^ 24) && decide (0 < m)
          | _ => false)
    | _, _ => false
  | _, _, _, _, _ => false

def chkOps (C : Cx) (n : Nat) (L : List Nat) (ops : Array Oper) : List Oper → List AInstr → Bool
  | os, [] => os.isEmpty
  | os, i :: is => (match i.op with
    | .thaw sz _ => i.dst == none && i.guard == none && decide (0 < sz) && chkOps C n L ops os is
    | .frz _ _ => i.dst == none && i.guard == none && chkOps C n L ops os is
    | _ => match os with
      | [] => false
      | o :: os => o.dst == i.dst && guardOK ops n L i.dst o.guard i.guard && chkSt C n L o.op i.dst i.op && chkOps C n L ops os is)
    || (match is with
      | [] => false
      | j :: js => chkPair C n L ops os i j && chkOps C n L ops (os.drop 2) js)

section
variable {C : Cx} {g0 g : Gh} {own0 own : Own} {B : Nat} {H0 H : Heap} {w0 w : World} {env : Env} {a : Act} {n : Nat} {L : List Nat}

theorem guard_sim (hF : Fr C g own w env a.tmps n L) {ops : Array Oper} {d : Option Nat} {o : Oper} {i : AInstr} (hg : guardOK ops n L d o.guard i.guard = true) {b : Bool} (hw : wantedS env i.guard = some b) :
    Region.wanted o (yielded ops a.tmps) = b ∧ (b = false → dstOKb n L d = true) := by
  unfold guardOK at hg
  split at hg
  · rename_i h1 h2
    rw [h2] at hw
    simp only [wantedS, Option.some.injEq] at hw
    subst hw
    exact ⟨by simp [Region.wanted, h1], fun h => by cases h⟩
  · rename_i j wt s wt' h1 h2
    simp only [Bool.and_eq_true, beq_iff_eq, decide_eq_true_eq] at hg
    obtain ⟨⟨⟨rfl, hj⟩, hs⟩, hd⟩ := hg
    refine ⟨?_, fun _ => hd⟩
    rw [h2] at hw
    have hlt : s < a.tmps.size := by rw [hF.size]; exact hs
    have hsl := hF.slots s
    have htm : a.tmps[s]? = some (tmOf a.tmps s) := by
      unfold tmOf
      simp [hlt]
    simp only [wantedS] at hw
    simp only [Region.wanted, h1, yielded, hj, Option.bind_some, htm]
    split at hw
    · rename_i bb hb
      simp only [SlotOK, hb] at hsl
      generalize tmOf a.tmps s = v at hsl
      cases hsl
      simp only [Option.some.injEq] at hw
      subst hw
      simp
    · rename_i hb
      simp only [SlotOK, hb] at hsl
      rw [hsl]
      simp only [Option.some.injEq] at hw
      subst hw
      simp [undef]
    · cases hw
  · simp at hg

theorem still_ext {g : Gh} {own : Own} {tmps : Array Value} {e' : Env} {H H' : Heap} (hE : Ext g0 own0 B H0 w0 g own H w) (h : Still C g own B H w tmps n L e' H') :
    ∃ g' own', Ext g0 own0 B H0 w0 g' own' H' w ∧ St C g' own' B H' w ∧ Fr C g' own' w e' tmps n L := by
  obtain ⟨g', own', h1, h2, h3⟩ := h
  exact ⟨g', own', hE.trans h1, h2, h3⟩

theorem thaw_op (hS : St C g own B H w) (hF : Fr C g own w env a.tmps n L) {cl : Caller} {d : Option Nat} {sz s : Nat} {out : Out} (h : opS cl d env H (.thaw sz s) = some out) :
    ∃ e' H', out = .go .nrm e' H' ∧ Still C g own B H w a.tmps n L e' H' := by
  simp only [opS] at h
  split at h
  · rename_i hs
    simp only [Option.some.injEq] at h
    exact ⟨_, _, h.symm, thaw_still hS hF hs⟩
  · cases h

theorem frz_op (hS : St C g own B H w) (hF : Fr C g own w env a.tmps n L) {cl : Caller} {d : Option Nat} {f : Fz} {s : Nat} {out : Out} (h : opS cl d env H (.frz f s) = some out) :
    ∃ e' H', out = .go .nrm e' H' ∧ Still C g own B H w a.tmps n L e' H' := by
  simp only [opS] at h
  split at h
  · rename_i x hs
    split at h
    · rename_i y H' hz
      simp only [Option.some.injEq] at h
      exact ⟨_, _, h.symm, frz_slot hS hF hs hz⟩
    · cases h
  · rename_i cs hs
    split at h
    · rename_i ds H' hz
      simp only [Option.some.injEq] at h
      exact ⟨_, _, h.symm, frz_lv hS hF hs hz⟩
    · cases h
  · cases h

theorem New.freeze {w w1 : World} (h : New w w1) (o k : Nat) : New w (w1.freeze ⟨w.heap.size, o, none⟩ k) := by
  unfold World.freeze
  split
  · exact h
  · exact ⟨h.os, h.tape, h.output, by simp [h.size], fun b hb => by
      simp only [Array.getElem?_modify]
      rw [if_neg (by omega)]; exact h.old b hb⟩

theorem freeze_cell (w : World) (p q : Addr) (k : Nat) : (w.freeze p k).cell? q = w.cell? q := by
  unfold World.freeze
  split
  · rfl
  · simp only [World.cell?, Array.getElem?_modify]
    by_cases h : p.block = q.block
    · rw [if_pos h]
      cases hq : w.heap[q.block]? with
      | none => simp
      | some x => cases x <;> simp
    · rw [if_neg h]

theorem mkl_done2 (hS : St C g own B H w) (hF : Fr C g own w env a.tmps n L) {t e : TypeId} (ht : C.P.underlying t = some (.slice e)) {sz m : Nat} {z : AV} (hz : zeroTy C.P e sz z = true) (hm : m * sz ≤ 2 ^ 24) (hm1 : 0 < m)
    {xs : List (Nat × Operand)} {ys : List (Nat × Opd)} (hp : partsMOK C xs ys = true) {qs : List (Nat × AV)} (hq : allParts env ys = some qs) {rs : List AV} (hr : mklAV (List.replicate m z) qs = some rs) {s : TypeId} (hs : bytesTy C.P s = true) :
    ∃ v w1 w2 g' own', (do pure (Next.value (← Instr.buildSlice t m (xs.toArray.map fun (i, x) => (i, a.eval x)))) : Sem Next).run C.P w = .ok (.value v) w1 ∧ (do pure (Next.value (← Go.convert s s v)) : Sem Next).run C.P w1 = .ok (.value v) w2 ∧
      VR C g' (.list false rs) v ∧ Ext g own B H w g' own' H w2 ∧ St C g' own' B H w2 ∧ Fr C g' own' w2 env a.tmps n L := by
  obtain ⟨i, v, hi, hsz, h0, hzl, hiz, hv⟩ := zeroTy_is hz g
  have hcz := VR.cells hv (.inl (by intro e; rw [e] at hzl; simp at hzl; omega))
  have hcs : v.cells.size = sz := by have := hcz.len; simp at this; omega
  have hrow := zero_row hcz (by omega) m
  rw [hcs] at hrow
  obtain ⟨h1, h2, cs, h3, h4⟩ := mkl_fill h0 (partsM_rel hF hp hq) (fun x hx => by rw [(List.mem_replicate.1 hx).2]; exact hzl) hrow hr
  have h2' : rs.length = m := by simpa using h2
  have hrun : (Instr.buildSlice t m (xs.toArray.map fun (i, x) => (i, a.eval x))).run C.P w = .ok (.slice (some ⟨w.heap.size, 0, none⟩) m m) (w.alloc (.cells cs e)) := by
    have hpl : (xs.toArray.map fun (i, x) => (i, a.eval x)).toList = xs.map fun (i, x) => (i, a.eval x) := by simp
    generalize (xs.toArray.map fun (i, x) => (i, a.eval x)) = pa at hpl
    have hlim : ¬ (16777216 < m * sz) := by omega
    have hm0 : m * sz ≠ 0 := by
      have := Nat.mul_pos hm1 h0
      omega
    simp only [Instr.buildSlice, Sem.run_bind, run_underlying ht, Go.sizeOf, typeInfo, run_program, Result.andThen_ok, hi, Sem.run_pure, hsz]
    simp [hlim, hm0, hpl, zeroValue, typeInfo, hi, hiz, newRow]
    rw [hcs]
    have h3' : Instr.fill (fun i => some (i * sz, sz)) (Array.map (fun x => v.cells[x % sz]!) (Array.range (m * sz))) (List.map (fun x => (x.fst, a.eval x.snd)) xs) = some cs := h3
    rw [h3']
    simp
  obtain ⟨e', ie, hu, hu8, _⟩ := bytesTy_is hs
  have hlen := h4.len
  rw [flat_len h1] at hlen
  simp at hlen
  have hN := (New.alloc w (.cells cs e)).freeze cs.size 1
  obtain ⟨g', own', k1, k2, k3, k4⟩ := list_new (B := B) hS hF hN (xs := rs) (cap := m) h0 h1 (by omega) (c := cs) (fun j => by rw [freeze_cell, cell_new]) (by
    rw [List.take_of_length_le (by simp; omega)]; exact h4)
  rw [h2'] at k1
  refine ⟨_, w.alloc (.cells cs e), _, g', own', by simp only [Sem.run_bind, hrun, Result.andThen_ok]; rfl, ?_, k1, k2, k3, k4⟩
  have hsh : (w.alloc (.cells cs e)).shape? w.heap.size = some (e, cs.size) := by
    simp only [World.shape?]
    rw [show (w.alloc (.cells cs e)).heap[w.heap.size]? = some (.cells cs e) from heap_alloc_new w _]
  simp [Go.convert, run_underlying hu, run_underlying hu8, markStringish, hsh]

theorem pair_sim {ops : Array Oper} {df : List Deferred} {cl : Caller} {i j : AInstr} {is : List AInstr} {os : List Oper} {out : Out} (hc : chkPair C n L ops os i j = true)
    (ho : opsS cl (i :: j :: is) env H = some out) (hE : Ext g0 own0 B H0 w0 g own H w) (hS : St C g own B H w) (hF : Fr C g own w env a.tmps n L) (hdf : a.defers = df)
    (rec : ∀ {g : Gh} {own : Own} {H : Heap} {w : World} {env : Env} {a : Act}, opsS cl is env H = some out → Ext g0 own0 B H0 w0 g own H w → St C g own B H w → Fr C g own w env a.tmps n L → a.defers = df →
      wpList C.P ops (OutR C g0 own0 B H0 w0 n L df out) (os.drop 2) a w) :
    wpList C.P ops (OutR C g0 own0 B H0 w0 n L df out) os a w := by
  unfold chkPair at hc
  split at hc
  · rename_i o p rest d k z m qs d' hdi hdj hoi hoj
    split at hc
    · rename_i t m' ps s s' d'' hop hpp
      simp only [Bool.and_eq_true, beq_iff_eq, bne_iff_ne] at hc
      obtain ⟨⟨⟨⟨⟨⟨⟨⟨⟨⟨⟨⟨⟨⟨⟨h1, h2⟩, rfl⟩, rfl⟩, h5⟩, h6⟩, h7⟩, h8⟩, h9⟩, rfl⟩, h11⟩, h12⟩, h13⟩, rfl⟩, h15⟩, h16⟩ := hc
      split at h16
      · rename_i e hu
        simp only [Bool.and_eq_true, decide_eq_true_eq] at h16
        obtain ⟨⟨hz, hm⟩, hm1⟩ := h16
        simp only [List.drop_succ_cons, List.drop_zero] at rec
        have hd12 := dstOKb_is h12
        have hd13 := dstOKb_is h13
        simp only [opsS] at ho
        cases hw : wantedS env i.guard with
        | none => rw [hw] at ho; cases ho
        | some b =>
          have hw2 : ∀ x, wantedS ((d'', x) :: env) j.guard = some b := fun x => by
            rw [← h6, ← hw]
            cases hg : i.guard with
            | none => rfl
            | some q =>
              obtain ⟨q, wt⟩ := q
              rw [hg] at h7
              simp only [bne_iff_ne] at h7
              simp [wantedS, Env.get, h7]
          rw [hw] at ho
          obtain ⟨k1, k2⟩ := guard_sim hF h8 hw
          refine wpList_step fun K hK => ?_
          rw [k1]
          cases b with
          | false =>
            simp only [Bool.false_eq_true, if_false]
            simp only [hdi, setDst, hw2] at ho
            have hF1 := hF.put hd12 (x := .un) (v := undef) rfl rfl
            refine hK _ _ (wpList_step fun K' hK' => ?_)
            obtain ⟨l1, _⟩ := guard_sim hF1 h9 (hw2 .un)
            rw [h1, l1]
            simp only [Bool.false_eq_true, if_false]
            refine hK' _ _ (rec (env := (k, .un) :: (d'', .un) :: env) (by rw [hdj] at ho; exact ho) hE hS ?_ ?_)
            · rw [h2]
              exact hF1.put hd13 (x := .un) (v := undef) rfl rfl
            · rw [put_defers, put_defers]; exact hdf
          | true =>
            simp only [if_true]
            simp only [hoi, hdi, opS, opv] at ho
            cases hq : allParts env qs with
            | none => rw [hq] at ho; cases ho
            | some rs =>
              rw [hq] at ho
              simp only at ho
              cases hr : mklAV (List.replicate m' z) rs with
              | none => rw [hr] at ho; cases ho
              | some xs =>
                rw [hr] at ho
                simp only [Option.map_some, setDst, hw2] at ho
                obtain ⟨v, w1, w2, g', own', r1, r2, r3, r4, r5, r6⟩ := mkl_done2 hS hF hu hz hm hm1 h15 hq hr h11
                have hrun1 : (execOp a.eval o).run C.P w = .ok (.value v) w1 := by
                  obtain ⟨dst, op, type, pos, after, guard⟩ := o
                  simp only at hop
                  subst hop
                  exact r1
                unfold Oper.wp
                rw [hrun1]
                show K (a.put o.dst v) w1
                have hF1 := r6.put hd12 (x := .v (.list false xs)) (v := v) r3 rfl
                have hev : (a.put (some d'') v).eval (.tmp d'') = v := by
                  have hlt : d'' < a.tmps.size := by rw [hF.size]; exact hd12.1
                  simp [Act.put, Act.eval, hlt]
                refine hK _ _ (wpList_step fun K' hK' => ?_)
                obtain ⟨l1, _⟩ := guard_sim (w := w2) (a := a.put (some d'') v) hF1 h9 (hw2 _)
                rw [h1, l1]
                simp only [if_true]
                have hrun2 : (execOp (a.put (some d'') v).eval p).run C.P w1 = .ok (.value v) w2 := by
                  obtain ⟨dst, op, type, pos, after, guard⟩ := p
                  simp only at hpp
                  subst hpp
                  simp only [execOp, hev]
                  exact r2
                unfold Oper.wp
                rw [hrun2]
                show K' ((a.put (some d'') v).put p.dst v) w2
                rw [h2]
                simp only [hoj, hdj, Env.av, Env.sl, Env.get, if_true] at ho
                refine hK' _ _ (rec ho (hE.trans r4) r5 (hF1.put hd13 (x := .v (.list false xs)) (v := v) r3 rfl) ?_)
                rw [put_defers, put_defers]; exact hdf
      · cases h16
    · cases hc
  · cases hc

theorem ops_sim (hfun : FunsOK C) {cl : Caller} (hcl : CallsOK C cl) {ops : Array Oper} {df : List Deferred} : ∀ {is : List AInstr} {os : List Oper} {g : Gh} {own : Own} {H : Heap} {w : World} {env : Env} {a : Act} {out : Out},
    chkOps C n L ops os is = true → opsS cl is env H = some out → Ext g0 own0 B H0 w0 g own H w → St C g own B H w → Fr C g own w env a.tmps n L → a.defers = df →
    wpList C.P ops (OutR C g0 own0 B H0 w0 n L df out) os a w
  | [], os, g, own, H, w, env, a, out, hc, ho, hE, hS, hF, hdf => by
    simp only [chkOps, List.isEmpty_iff] at hc
    subst hc
    simp only [opsS, Option.some.injEq] at ho
    subst ho
    exact ⟨rfl, hdf, g, own, hE, hS, hF⟩
  | i :: is, os, g, own, H, w, env, a, out, hc, ho, hE, hS, hF, hdf => by
    have ghost : ∀ (h2 : i.guard = none) (h4 : chkOps C n L ops os is = true) (hg : ∀ o1, opS cl i.dst env H i.op = some o1 → ∃ e' H', o1 = .go .nrm e' H' ∧ Still C g own B H w a.tmps n L e' H'),
        wpList C.P ops (OutR C g0 own0 B H0 w0 n L df out) os a w := fun h2 h4 hg => by
      simp only [opsS, h2, wantedS] at ho
      cases hx : opS cl i.dst env H i.op with
      | none => rw [hx] at ho; cases ho
      | some o1 =>
        obtain ⟨e', H', rfl, hst⟩ := hg o1 hx
        rw [hx] at ho
        obtain ⟨g', own', k1, k2, k3⟩ := still_ext hE hst
        exact ops_sim hfun hcl h4 ho k1 k2 k3 hdf
    unfold chkOps at hc
    simp only [Bool.or_eq_true] at hc
    rcases hc with hc | hc
    case inr =>
      split at hc
      · cases hc
      · rename_i j js
        simp only [Bool.and_eq_true] at hc
        exact pair_sim hc.1 ho hE hS hF hdf fun ho' hE' hS' hF' hdf' => ops_sim hfun hcl hc.2 ho' hE' hS' hF' hdf'
    split at hc
    · rename_i sz s hi
      simp only [Bool.and_eq_true, beq_iff_eq, decide_eq_true_eq] at hc
      exact ghost hc.1.1.2 hc.2 (fun o1 h => thaw_op hS hF (hi ▸ h))
    · rename_i f s hi
      simp only [Bool.and_eq_true, beq_iff_eq] at hc
      exact ghost hc.1.2 hc.2 (fun o1 h => frz_op hS hF (hi ▸ h))
    · split at hc
      · cases hc
      · rename_i o os'
        simp only [Bool.and_eq_true, beq_iff_eq] at hc
        obtain ⟨⟨⟨h1, h2⟩, h3⟩, h4⟩ := hc
        refine wpList_step fun K hK => ?_
        simp only [opsS] at ho
        cases hw : wantedS env i.guard with
        | none => rw [hw] at ho; cases ho
        | some b =>
          rw [hw] at ho
          obtain ⟨k1, k2⟩ := guard_sim hF h2 hw
          rw [k1]
          cases b with
          | false =>
            simp only [Bool.false_eq_true, if_false]
            refine hK _ _ (ops_sim hfun hcl h4 ho hE hS ?_ ?_)
            · rw [h1]
              exact hF.put (dstOKb_is (k2 rfl)) (x := .un) rfl rfl
            · rw [put_defers]; exact hdf
          | true =>
            simp only [if_true]
            simp only at ho
            cases hx : opS cl i.dst env H i.op with
            | none => rw [hx] at ho; cases ho
            | some o1 =>
              rw [hx] at ho
              refine op_sim hfun hS hF hcl h1 h3 hx ⟨fun x e' H' he g' own' w' a' hE' hS' hF' hd' => ?_, fun v e' H' he g' own' w' pv hE' hS' hF' hv => ?_⟩
              · subst he
                simp only at ho
                exact hK _ _ (ops_sim hfun hcl h4 ho (hE.trans hE') hS' hF' (hd'.trans hdf))
              · subst he
                simp only [Option.some.injEq] at ho
                subst ho
                exact ⟨pv, rfl, hdf, g', own', hE.trans hE', hS', hF', hv⟩
end
end Ey

namespace Ey

inductive Kd where
  | p | l | o | r | a | k | w | x
  deriving DecidableEq

def kindOf (pf : Nat → Bool) : AOp → Kd
  | .thaw .. | .frz .. | .pan _ => .x
  | .alv _ | .blv .. | .st .. | .cpy .. | .clr .. => .w
  | .app .. | .apz .. | .mks .. | .mkm .. => .a
  | .aob _ | .bob .. | .sto .. | .callc .. | .callv .. | .mkmp | .mpu .. => .k
  | .call f _ => if pf f then .r else .k
  | .ld .. | .ix .. | .sl .. | .cvb _ | .sts .. | .mpl .. => .r
  | .ldo .. => .o
  | .ldl .. | .ldp .. => .l
  | _ => .p

def Opd.slots : Opd → List Nat
  | .t n => [n]
  | .k _ => []

def oslots : Option Opd → List Nat
  | some o => o.slots
  | none => []

def AOp.looks : AOp → List Nat
  | .mv x | .un _ x | .cvi _ x | .cvb x | .cvs x | .cvl x | .fa _ _ _ x | .ld _ _ x | .ldi _ _ x | .ldp _ _ x | .ldo _ _ x | .fld _ _ _ x | .len x | .lns x | .cap x | .ext _ x | .mkif _ x | .tas _ _ _ x | .nilc x | .blv _ x | .bim _ x | .bob _ x | .mks _ _ x | .clr _ _ x | .pan x => x.slots
  | .bin _ x y | .eq _ _ x y | .ia _ _ _ x y | .ix _ x y | .ixl _ x y | .ixa _ _ _ x y | .ixs x y | .mnmx _ x y | .st _ x y | .sto _ x y | .app _ x y | .apz _ _ x y | .cpy _ x y => x.slots ++ y.slots
  | .pick c x y => c.slots ++ (x.slots ++ y.slots)
  | .mkm _ _ ps => ps.flatMap fun p => p.2.slots
  | .mkl _ _ ps => ps.flatMap fun p => p.2.slots
  | .bld _ ps => ps.flatMap fun p => p.2.slots
  | .sl _ x lo hi mx => x.slots ++ (oslots lo ++ (oslots hi ++ oslots mx))
  | .ss x lo hi => x.slots ++ (oslots lo ++ oslots hi)
  | .sla _ x lo hi => x.slots ++ (oslots lo ++ oslots hi)
  | .mkfn _ xs => xs.flatMap Opd.slots
  | .call _ xs => xs.flatMap Opd.slots
  | .callc _ xs cs => xs.flatMap Opd.slots ++ cs.flatMap fun c => c.1 :: c.2.2.2.slots
  | .callv f xs => f.slots ++ xs.flatMap Opd.slots
  | .callp _ _ xs => xs.flatMap Opd.slots
  | .ldl _ _ s => [s]
  | .nat _ xs => xs.flatMap Opd.slots
  | .st0 x y => x.slots ++ y.slots
  | .bad => []
  | .mkmp => []
  | .sts _ x y | .mpl _ _ _ x y | .rmc _ x y | .chk x y => x.slots ++ y.slots
  | .mpu _ x y z => x.slots ++ (y.slots ++ z.slots)
  | .alv _ | .aob _ => []
  | .thaw _ s | .frz _ s => [s]

def AInstr.looks (i : AInstr) : List Nat := (match i.guard with | some (s, _) => [s] | none => []) ++ i.op.looks

def Sl.isLv : Sl → Bool
  | .lv _ => true
  | _ => false

structure OffP (D : Nat → Prop) (e e' : Env) : Prop where
  eq : ∀ s, ¬ D s → e.get s = e'.get s
  nl : ∀ s, D s → (e.get s).isLv = false ∧ (e'.get s).isLv = false

abbrev Off (d : Option Nat) (e e' : Env) : Prop := OffP (fun s => d = some s) e e'

def Sames (a b : Sl) : Prop := a = b ∨ (a.isLv = true ∧ b.isLv = true)

theorem lv_of {x : Sl} (h : x.isLv = true) : ∃ cs, x = .lv cs := by
  cases x <;> simp [Sl.isLv] at h
  exact ⟨_, rfl⟩

section
variable {D : Nat → Prop} {e e' : Env}

theorem sl_sames {o : Opd} (h : ∀ s ∈ o.slots, Sames (e.get s) (e'.get s)) : e.sl o = e'.sl o := by
  cases o with
  | k v => rfl
  | t n =>
    rcases h n (by simp [Opd.slots]) with h | ⟨h1, h2⟩
    · simp [Env.sl, h]
    · obtain ⟨cs, h1⟩ := lv_of h1
      obtain ⟨cs', h2⟩ := lv_of h2
      simp [Env.sl, h1, h2]

theorem av_sames {o : Opd} (h : ∀ s ∈ o.slots, Sames (e.get s) (e'.get s)) : e.av o = e'.av o := by simp [Env.av, sl_sames h]

theorem allAV_sames : ∀ {l : List Opd}, (∀ s ∈ l.flatMap Opd.slots, Sames (e.get s) (e'.get s)) → allAV e l = allAV e' l
  | [], _ => rfl
  | o :: r, h => by
    simp only [allAV]
    rw [av_sames (o := o) fun s hs => h s (by simp [hs]), allAV_sames (l := r) fun s hs => h s (by
      simp only [List.flatMap_cons, List.mem_append]
      exact .inr hs)]

theorem allParts_sames {κ : Type} : ∀ {l : List (κ × Opd)}, (∀ s ∈ l.flatMap (fun p => p.2.slots), Sames (e.get s) (e'.get s)) → allParts e l = allParts e' l
  | [], _ => rfl
  | (i, o) :: r, h => by
    simp only [allParts]
    rw [av_sames (o := o) fun s hs => h s (by simp [hs]), allParts_sames (l := r) fun s hs => h s (by
      simp only [List.flatMap_cons, List.mem_append]
      exact .inr hs)]

theorem optAV_sames {o : Option Opd} (h : ∀ s ∈ oslots o, Sames (e.get s) (e'.get s)) : optAV e o = optAV e' o := by
  cases o with
  | none => rfl
  | some o => simp [optAV, av_sames (o := o) h]

theorem wanted_sames {i : AInstr} (h : ∀ s ∈ i.looks, Sames (e.get s) (e'.get s)) : wantedS e i.guard = wantedS e' i.guard := by
  obtain ⟨dst, op, guard⟩ := i
  cases guard with
  | none => rfl
  | some p =>
    obtain ⟨s, w⟩ := p
    rcases h s (by simp [AInstr.looks]) with h | ⟨h1, h2⟩
    · simp [wantedS, h]
    · obtain ⟨cs, h1⟩ := lv_of h1
      obtain ⟨cs', h2⟩ := lv_of h2
      simp [wantedS, h1, h2]

theorem opv_p {pf : Nat → Bool} {op : AOp} (hk : kindOf pf op = .p) (h : ∀ s ∈ op.looks, Sames (e.get s) (e'.get s)) (H H' : Heap) : opv e H op = opv e' H' op := by
  cases op <;> simp only [kindOf] at hk <;> try (cases hk; done)
  case call f xs => split at hk <;> cases hk
  case mkl z n ps => simp only [opv, allParts_sames (l := ps) h]
  case bld z ps => simp only [opv, allParts_sames (l := ps) h]
  case mkfn f xs => simp only [opv, allAV_sames (l := xs) h]
  case nat k xs => simp only [opv, allAV_sames (l := xs) h]
  case bad => rfl
  case callp f fz xs => rfl
  case st0 x y =>
    simp only [AOp.looks, List.mem_append] at h
    simp only [opv, sl_sames (o := x) fun s hs => h s (.inl hs), av_sames (o := y) fun s hs => h s (.inr hs)]
  case mv x => simp only [opv, sl_sames (o := x) h]
  case nilc x => simp only [opv, sl_sames (o := x) h]
  case fa off sz ag x => simp only [opv, sl_sames (o := x) h]
  case ldi sz ag x => simp only [opv, sl_sames (o := x) h]
  case pick c x y =>
    simp only [AOp.looks, List.mem_append] at h
    simp only [opv, av_sames (o := c) fun s hs => h s (.inl hs)]
    split
    · rename_i b hb; cases b <;> simp [av_sames (o := x) fun s hs => h s (.inr (.inl hs)), av_sames (o := y) fun s hs => h s (.inr (.inr hs))]
    · rfl
  case ss x lo hi =>
    simp only [AOp.looks, List.mem_append] at h
    simp only [opv, av_sames (o := x) fun s hs => h s (.inl hs), optAV_sames (o := lo) fun s hs => h s (.inr (.inl hs)), optAV_sames (o := hi) fun s hs => h s (.inr (.inr hs))]
  case sla n x lo hi =>
    simp only [AOp.looks, List.mem_append] at h
    simp only [opv, av_sames (o := x) fun s hs => h s (.inl hs), optAV_sames (o := lo) fun s hs => h s (.inr (.inl hs)), optAV_sames (o := hi) fun s hs => h s (.inr (.inr hs))]
  case ia n sz ag x y =>
    simp only [AOp.looks, List.mem_append] at h
    simp only [opv, sl_sames (o := x) fun s hs => h s (.inl hs), av_sames (o := y) fun s hs => h s (.inr hs)]
  all_goals first
    | (rename_i x; simp only [opv, av_sames (o := x) h])
    | (rename_i x y
       simp only [AOp.looks, List.mem_append] at h
       simp only [opv, av_sames (o := x) fun s hs => h s (.inl hs), av_sames (o := y) fun s hs => h s (.inr hs)])

theorem off_sames (h : OffP D e e') {s : Nat} (hs : ¬ D s) : Sames (e.get s) (e'.get s) := .inl (h.eq s hs)

theorem ldS_off (h : OffP D e e') (H : Heap) (sz : Nat) (ag : Bool) (x : Sl) : ldS e H sz ag x = ldS e' H sz ag x := by
  cases x with
  | lp s off =>
    simp only [ldS]
    by_cases hs : D s
    · obtain ⟨h1, h2⟩ := h.nl s hs
      cases h3 : e.get s <;> cases h4 : e'.get s <;> first | rfl | (rw [h3] at h1; simp [Sl.isLv] at h1; done) | (rw [h4] at h2; simp [Sl.isLv] at h2; done)
    · rw [h.eq s hs]
  | v y => cases y <;> rfl
  | _ => rfl

theorem opv_off (h : OffP D e e') {op : AOp} (hd : ∀ s ∈ op.looks, ¬ D s) (H : Heap) : opv e H op = opv e' H op := by
  have hs : ∀ s ∈ op.looks, Sames (e.get s) (e'.get s) := fun s hs => off_sames h (hd s hs)
  by_cases hk : kindOf (fun _ => true) op = .p
  · exact opv_p hk hs H H
  · cases op <;> simp only [kindOf, reduceCtorEq, not_false_eq_true, not_true_eq_false] at hk <;> try (rfl; done)
    case ld sz ag x => simp only [opv, sl_sames (o := x) hs, ldS_off h]
    case ldp sz ag x => simp only [opv, sl_sames (o := x) hs, ldS_off h]
    case ldo sz ag x => simp only [opv, sl_sames (o := x) hs, ldS_off h]
    case ldl sz ag s => simp only [opv, h.eq s (hd s (by simp [AOp.looks]))]
    case cvb x => simp only [opv, av_sames (o := x) hs]
    case sts sz x y =>
      simp only [AOp.looks, List.mem_append] at hs
      simp only [opv, sl_sames (o := x) fun s k => hs s (.inl k), av_sames (o := y) fun s k => hs s (.inr k)]
    case mpl n z ok x y =>
      simp only [AOp.looks, List.mem_append] at hs
      simp only [opv, av_sames (o := x) fun s k => hs s (.inl k), av_sames (o := y) fun s k => hs s (.inr k)]
    case ix sz x y =>
      simp only [AOp.looks, List.mem_append] at hs
      simp only [opv, av_sames (o := x) fun s k => hs s (.inl k), av_sames (o := y) fun s k => hs s (.inr k)]
    case sl sz x lo hi mx =>
      simp only [AOp.looks, List.mem_append] at hs
      simp only [opv, av_sames (o := x) fun s k => hs s (.inl k), optAV_sames (o := lo) fun s k => hs s (.inr (.inl k)), optAV_sames (o := hi) fun s k => hs s (.inr (.inr (.inl k))), optAV_sames (o := mx) fun s k => hs s (.inr (.inr (.inr k)))]

theorem get_cons (k : Nat) (x : Sl) (e : Env) (s : Nat) : Env.get ((k, x) :: e) s = if s = k then x else e.get s := rfl

theorem off_cons (h : OffP D e e') {k : Nat} (hk : ¬ D k) (x : Sl) : OffP D ((k, x) :: e) ((k, x) :: e') where
  eq := fun s hs => by simp only [get_cons]; split; rfl; exact h.eq s hs
  nl := fun s hs => by
    have : s ≠ k := fun e => hk (e ▸ hs)
    simp only [get_cons, if_neg this]
    exact h.nl s hs

theorem off_set (h : OffP D e e') {x : Option Nat} (hx : ∀ s, x = some s → ¬ D s) (v : Sl) : OffP D (setDst x v e) (setDst x v e') := by
  cases x with
  | none => exact h
  | some k => exact off_cons h (hx k rfl) v

theorem stS_off (h : OffP D e e') {H : Heap} {new : List AV} {x : Sl} {e1 : Env} {H1 : Heap} (hs : stS e H new x = some (e1, H1)) : ∃ e1', stS e' H new x = some (e1', H1) ∧ OffP D e1 e1' := by
  cases x with
  | lp s off =>
    simp only [stS] at hs ⊢
    by_cases hd : D s
    · obtain ⟨h1, _⟩ := h.nl s hd
      cases h3 : e.get s <;> rw [h3] at hs h1 <;> first | (simp [Sl.isLv] at h1; done) | (cases hs; done)
    · rw [← h.eq s hd]
      split at hs
      · rename_i cs hcs
        split at hs
        · rename_i hle
          simp only [Option.some.injEq, Prod.mk.injEq] at hs
          obtain ⟨rfl, rfl⟩ := hs
          exact ⟨_, by simp only [if_pos hle], off_cons h hd _⟩
        · cases hs
      · cases hs
  | v y =>
    have key : ∀ {o : Option (Env × Heap)} {o' : Option (Env × Heap)}, o = some (e1, H1) → (∀ p, o = some p → p.1 = e → o' = some (e', p.2)) → (∀ p, o = some p → p.1 = e) → ∃ e1', o' = some (e1', H1) ∧ OffP D e1 e1' := by
      intro o o' ho h1 h2
      have h3 := h2 _ ho
      simp only at h3
      exact ⟨e', h1 _ ho h3, h3 ▸ h⟩
    refine key hs (fun p hp hpe => ?_) (fun p hp => ?_)
    · cases y <;> simp only [stS] at hp ⊢ <;> try (cases hp; done)
      all_goals
        repeat' (split at hp)
        all_goals first | (cases hp; done) | (simp only [Option.some.injEq] at hp; subst hp; simp_all)
    · cases y <;> simp only [stS] at hp <;> try (cases hp; done)
      all_goals
        repeat' (split at hp)
        all_goals first | (cases hp; done) | (simp only [Option.some.injEq] at hp; subst hp; rfl)
  | no => cases hs
  | un => cases hs
  | lv cs => cases hs

theorem opS_off (h : OffP D e e') {cl : Caller} {op : AOp} (hx : ∀ pf, kindOf pf op ≠ .x) {x : Option Nat} (hxd : ∀ s, x = some s → ¬ D s) (hd : ∀ s ∈ op.looks, ¬ D s) {H : Heap} {q : Ex} {e1 : Env} {H1 : Heap}
    (hs : opS cl x e H op = some (.go q e1 H1)) : ∃ e1', opS cl x e' H op = some (.go q e1' H1) ∧ OffP D e1 e1' := by
  have hav : ∀ {o : Opd}, (∀ s ∈ o.slots, ¬ D s) → e.av o = e'.av o := fun {o} ho => av_sames fun s k => off_sames h (ho s k)
  have hsl : ∀ {o : Opd}, (∀ s ∈ o.slots, ¬ D s) → e.sl o = e'.sl o := fun {o} ho => sl_sames fun s k => off_sames h (ho s k)
  cases op
  case thaw sz s => exact absurd rfl (hx fun _ => true)
  case frz f s => exact absurd rfl (hx fun _ => true)
  case pan y => exact absurd rfl (hx fun _ => true)
  case alv cs =>
    cases x with
    | none => cases hs
    | some s =>
      simp only [opS] at hs ⊢
      rw [← h.eq s (hxd s rfl)]
      split at hs
      · cases hs
      · rename_i hne
        simp only [Option.some.injEq, Out.go.injEq] at hs
        obtain ⟨rfl, rfl, rfl⟩ := hs
        exact ⟨(s, .lv cs) :: e', rfl, off_cons h (hxd s rfl) _⟩
  case blv sz y =>
    cases x with
    | none => cases hs
    | some s =>
      simp only [opS] at hs ⊢
      rw [← hav (o := y) hd]
      split at hs
      · rename_i s' v hs' hv
        simp at hs'; subst hs'
        split at hs
        · cases hs
        · rename_i hne
          split at hs
          · rename_i hl
            simp only [Option.some.injEq, Out.go.injEq] at hs
            obtain ⟨rfl, rfl, rfl⟩ := hs
            refine ⟨(s, .lv v.cells) :: e', ?_, off_cons h (hxd s rfl) _⟩
            rw [← h.eq s (hxd s rfl)]
            simp only [if_pos hl]
          · cases hs
      · cases hs
  case aob cs =>
    simp only [opS, Option.some.injEq, Out.go.injEq] at hs ⊢
    obtain ⟨rfl, rfl, rfl⟩ := hs
    exact ⟨_, ⟨rfl, rfl, rfl⟩, off_set h hxd _⟩
  case bob sz y =>
    simp only [opS] at hs ⊢
    rw [← hav (o := y) hd]
    repeat' (split at hs)
    all_goals first | (cases hs; done) | skip
    rename_i v hv hl
    simp only [Option.some.injEq, Out.go.injEq] at hs
    obtain ⟨rfl, rfl, rfl⟩ := hs
    refine ⟨_, ?_, off_set h hxd _⟩
    first | rfl | simp_all
  case st sz y z =>
    simp only [AOp.looks, List.mem_append] at hd
    simp only [opS] at hs ⊢
    rw [← hav (o := z) fun s k => hd s (.inr k), ← hsl (o := y) fun s k => hd s (.inl k)]
    cases hz : e.av z with
    | none => rw [hz] at hs; cases hs
    | some w =>
      rw [hz] at hs
      simp only at hs ⊢
      by_cases hl : w.cells.length = sz
      · rw [if_pos hl] at hs ⊢
        cases hst : stS e H w.cells (e.sl y) with
        | none => rw [hst] at hs; cases hs
        | some p =>
          obtain ⟨e2, H2⟩ := p
          rw [hst] at hs
          simp only [Option.some.injEq, Out.go.injEq] at hs
          obtain ⟨rfl, rfl, rfl⟩ := hs
          obtain ⟨e2', k1, k2⟩ := stS_off h hst
          exact ⟨e2', by rw [k1], k2⟩
      · rw [if_neg hl] at hs; cases hs
  case mkmp =>
    simp only [opS, Option.some.injEq, Out.go.injEq] at hs ⊢
    obtain ⟨rfl, rfl, rfl⟩ := hs
    exact ⟨_, ⟨rfl, rfl, rfl⟩, off_set h hxd _⟩
  case mpu m y z u =>
    simp only [AOp.looks, List.mem_append] at hd
    simp only [opS] at hs ⊢
    rw [← hav (o := y) fun s k => hd s (.inl k), ← hav (o := z) fun s k => hd s (.inr (.inl k)), ← hav (o := u) fun s k => hd s (.inr (.inr k))]
    repeat' (split at hs)
    all_goals first | (cases hs; done) | skip
    all_goals
      simp only [Option.some.injEq, Out.go.injEq] at hs
      obtain ⟨rfl, rfl, rfl⟩ := hs
      refine ⟨_, ?_, off_set h hxd _⟩
      simp_all
  case app sz y z =>
    simp only [AOp.looks, List.mem_append] at hd
    simp only [opS] at hs ⊢
    rw [← hav (o := y) fun s k => hd s (.inl k), ← hav (o := z) fun s k => hd s (.inr k)]
    repeat' (split at hs)
    all_goals first | (cases hs; done) | skip
    rename_i u v hu hv _ r H' ha
    simp only [Option.some.injEq, Out.go.injEq] at hs
    obtain ⟨rfl, rfl, rfl⟩ := hs
    refine ⟨_, ?_, off_set h hxd _⟩
    first | rfl | simp_all
  case sto sz y z =>
    simp only [AOp.looks, List.mem_append] at hd
    simp only [opS] at hs ⊢
    rw [← hav (o := z) fun s k => hd s (.inr k), ← hsl (o := y) fun s k => hd s (.inl k)]
    split at hs
    · rename_i q hq
      split at hs
      · rename_i w hw
        split at hs
        · rename_i hl
          simp only [if_pos hl]
          cases hst : stS e H w.cells (.v q) with
          | none => rw [hst] at hs; cases hs
          | some p =>
            obtain ⟨e2, H2⟩ := p
            rw [hst] at hs
            simp only [Option.some.injEq, Out.go.injEq] at hs
            obtain ⟨rfl, rfl, rfl⟩ := hs
            obtain ⟨e2', k1, k2⟩ := stS_off h hst
            exact ⟨_, by rw [k1], off_set h hxd _⟩
        · cases hs
      · cases hs
    · cases hs
  case apz sz z0 y z =>
    simp only [AOp.looks, List.mem_append] at hd
    simp only [opS] at hs ⊢
    rw [← hav (o := y) fun s k => hd s (.inl k), ← hav (o := z) fun s k => hd s (.inr k)]
    repeat' (split at hs)
    all_goals first | (cases hs; done) | skip
    simp only [Option.some.injEq, Out.go.injEq] at hs
    obtain ⟨rfl, rfl, rfl⟩ := hs
    refine ⟨_, ?_, off_set h hxd _⟩
    first | rfl | simp_all
  case mkm z k ps =>
    simp only [opS] at hs ⊢
    rw [← allParts_sames (l := ps) fun s j => off_sames h (hd s j)]
    repeat' (split at hs)
    all_goals first | (cases hs; done) | skip
    simp only [Option.some.injEq, Out.go.injEq] at hs
    obtain ⟨rfl, rfl, rfl⟩ := hs
    refine ⟨_, ?_, off_set h hxd _⟩
    first | rfl | simp_all
  case mks sz z y =>
    simp only [opS] at hs ⊢
    rw [← hav (o := y) hd]
    repeat' (split at hs)
    all_goals first | (cases hs; done) | skip
    rename_i kk hv hl
    simp only [Option.some.injEq, Out.go.injEq] at hs
    obtain ⟨rfl, rfl, rfl⟩ := hs
    refine ⟨_, ?_, off_set h hxd _⟩
    first | rfl | simp_all
  case cpy sz y z =>
    simp only [AOp.looks, List.mem_append] at hd
    simp only [opS] at hs ⊢
    rw [← hav (o := y) fun s k => hd s (.inl k), ← hav (o := z) fun s k => hd s (.inr k)]
    repeat' (split at hs)
    all_goals first | (cases hs; done) | skip
    all_goals
      simp only [Option.some.injEq, Out.go.injEq] at hs
      obtain ⟨rfl, rfl, rfl⟩ := hs
      refine ⟨_, ?_, off_set h hxd _⟩
      simp_all
  case clr sz z y =>
    simp only [opS] at hs ⊢
    rw [← hav (o := y) hd]
    repeat' (split at hs)
    all_goals first | (cases hs; done) | skip
    all_goals
      simp only [Option.some.injEq, Out.go.injEq] at hs
      obtain ⟨rfl, rfl, rfl⟩ := hs
      refine ⟨_, ?_, off_set h hxd _⟩
      simp_all
  case call f xs =>
    simp only [opS] at hs ⊢
    rw [← allAV_sames (e := e) (e' := e') (l := xs) fun s k => off_sames h (hd s k)]
    repeat' (split at hs)
    all_goals first | (cases hs; done) | skip
    rename_i vs hvs _ v H' hc
    simp only [Option.some.injEq, Out.go.injEq] at hs
    obtain ⟨rfl, rfl, rfl⟩ := hs
    refine ⟨_, ?_, off_set h hxd _⟩
    first | rfl | simp_all
  case callp f fz xs =>
    simp only [opS] at hs ⊢
    rw [← allAV_sames (e := e) (e' := e') (l := xs) fun s k => off_sames h (hd s k)]
    cases hvs : allAV e xs with
    | none => rw [hvs] at hs; cases hs
    | some vs =>
      rw [hvs] at hs
      simp only at hs ⊢
      cases hc : clpS cl f fz vs with
      | none => rw [hc] at hs; cases hs
      | some v =>
        rw [hc] at hs
        simp only [Option.some.injEq, Out.go.injEq] at hs
        obtain ⟨rfl, rfl, rfl⟩ := hs
        exact ⟨_, rfl, off_set h hxd _⟩
  case callc f xs cs =>
    simp only [AOp.looks, List.mem_append] at hd
    simp only [opS] at hs ⊢
    rw [← allAV_sames (e := e) (e' := e') (l := xs) fun s k => off_sames h (hd s (.inl k))]
    repeat' (split at hs)
    all_goals first | (cases hs; done) | skip
    rename_i vs hvs _ v H' hc hcs
    simp only [Option.some.injEq, Out.go.injEq] at hs
    obtain ⟨rfl, rfl, rfl⟩ := hs
    refine ⟨setDst x (.v v) e', ?_, off_set h hxd _⟩
    have hset := off_set h hxd (.v v)
    have : cs.all (sameLd (setDst x (.v v) e') H') = true := by
      rw [List.all_eq_true] at hcs ⊢
      intro q hq
      have h1 := hcs q hq
      have hl : ∀ s ∈ q.1 :: q.2.2.2.slots, ¬ D s := fun s hs => hd s (.inr (List.mem_flatMap.2 ⟨q, hq, hs⟩))
      unfold sameLd at h1 ⊢
      rw [← sl_sames (o := q.2.2.2) fun s k => off_sames hset (hl s (List.mem_cons_of_mem _ k)), ← hset.eq q.1 (hl q.1 List.mem_cons_self)]
      simp only [← ldS_off hset]
      exact h1
    simp only [this, if_true]
  case callv f xs =>
    simp only [AOp.looks, List.mem_append] at hd
    simp only [opS] at hs ⊢
    rw [← hav (o := f) fun s k => hd s (.inl k), ← allAV_sames (e := e) (e' := e') (l := xs) fun s k => off_sames h (hd s (.inr k))]
    repeat' (split at hs)
    all_goals first | (cases hs; done) | skip
    rename_i gg cap vs hf hvs _ v H' hc
    simp only [Option.some.injEq, Out.go.injEq] at hs
    obtain ⟨rfl, rfl, rfl⟩ := hs
    refine ⟨_, ?_, off_set h hxd _⟩
    first | rfl | simp_all
  all_goals
    simp only [opS] at hs ⊢
    rw [← opv_off h hd H]
    split at hs
    · rename_i y hy
      simp only [Option.some.injEq, Out.go.injEq] at hs
      obtain ⟨rfl, rfl, rfl⟩ := hs
      exact ⟨_, rfl, off_set h hxd _⟩
    · cases hs
end
end Ey

namespace Ey

def stp (cl : Caller) (i : AInstr) (e : Env) (H : Heap) : Option (Env × Heap) :=
  match wantedS e i.guard with
  | none => none
  | some false => some (setDst i.dst .un e, H)
  | some true => match opS cl i.dst e H i.op with
    | some (.go _ e' H') => some (e', H')
    | _ => none

def runS (cl : Caller) : List AInstr → Env → Heap → Option (Env × Heap)
  | [], e, H => some (e, H)
  | i :: r, e, H => match stp cl i e H with
    | some (e', H') => runS cl r e' H'
    | none => none

theorem runS_of_opsS {cl : Caller} : ∀ {l : List AInstr} {e : Env} {H : Heap} {q : Ex} {e' : Env} {H' : Heap}, opsS cl l e H = some (.go q e' H') → runS cl l e H = some (e', H')
  | [], e, H, q, e', H', h => by
    simp only [opsS, Option.some.injEq, Out.go.injEq] at h
    obtain ⟨_, rfl, rfl⟩ := h
    rfl
  | i :: r, e, H, q, e', H', h => by
    simp only [opsS] at h
    simp only [runS, stp]
    cases hw : wantedS e i.guard with
    | none => rw [hw] at h; cases h
    | some b =>
      rw [hw] at h
      cases b with
      | false => exact runS_of_opsS h
      | true =>
        simp only at h ⊢
        cases ho : opS cl i.dst e H i.op with
        | none => rw [ho] at h; cases h
        | some o =>
          rw [ho] at h
          cases o with
          | go q2 e2 H2 => exact runS_of_opsS h
          | pan v e2 H2 => cases h

def PureC (pf : Nat → Bool) (cl : Caller) : Prop := ∀ f, pf f = true → ∀ vs H v H', cl f vs H = some (.ret v H') → H' = H

def quiet : Kd → Bool
  | .p | .l | .o | .r => true
  | _ => false

def qv (cl : Caller) (i : AInstr) (e : Env) (H : Heap) : Option Sl :=
  match wantedS e i.guard with
  | none => none
  | some false => some .un
  | some true => match i.op with
    | .call f xs => match allAV e xs with
      | some vs => match cl f vs H with
        | some (.ret v _) => some (.v v)
        | _ => none
      | none => none
    | .callp f fz xs => match allAV e xs with
      | some vs => (clpS cl f fz vs).map Sl.v
      | none => none
    | op => opv e H op

theorem opv_nl {e : Env} {H : Heap} {op : AOp} {x : Sl} (h : opv e H op = some x) : x.isLv = false := by
  cases op <;> simp only [opv] at h <;> try (cases h; done)
  all_goals repeat' (split at h)
  all_goals first
    | (cases h; done)
    | (simp only [Option.some.injEq] at h; subst h; rfl)
    | (simp only [Option.map_eq_some_iff] at h; obtain ⟨_, _, rfl⟩ := h; rfl)
    | (unfold addrS at h
       split at h <;> first
         | (cases h; done)
         | (simp only [Option.some.injEq] at h; subst h; rfl)
         | (simp only [Option.map_eq_some_iff] at h; obtain ⟨_, _, rfl⟩ := h; rfl))

section
variable {pf : Nat → Bool} {cl : Caller} {i : AInstr} {e e' : Env} {H H' : Heap}

theorem quiet_op (hp : PureC pf cl) {op : AOp} (hq : quiet (kindOf pf op) = true) {d : Option Nat} {q : Ex} (h : opS cl d e H op = some (.go q e' H')) :
    H' = H ∧ ∃ x, qv cl ⟨d, op, none⟩ e H = some x ∧ x.isLv = false ∧ e' = setDst d x e := by
  have key : ∀ {o : AOp}, (∀ f xs, o ≠ .call f xs) → (∀ f fz xs, o ≠ .callp f fz xs) → (match opv e H o with
      | some x => some (Out.go .nrm (setDst d x e) H)
      | none => none) = some (Out.go q e' H') → H' = H ∧ ∃ x, qv cl ⟨d, o, none⟩ e H = some x ∧ x.isLv = false ∧ e' = setDst d x e := by
    intro o hne hne2 hh
    split at hh
    · rename_i x hx
      simp only [Option.some.injEq, Out.go.injEq] at hh
      obtain ⟨_, rfl, rfl⟩ := hh
      refine ⟨rfl, x, ?_, opv_nl hx, rfl⟩
      simp only [qv, wantedS]
      exact hx
    · cases hh
  cases op <;> try (simp only [kindOf, quiet, Bool.false_eq_true] at hq; done)
  case call f xs =>
    have hpf : pf f = true := by
      by_cases hb : pf f = true
      · exact hb
      · simp [kindOf, quiet, hb] at hq
    simp only [opS] at h
    repeat' (split at h)
    all_goals first | (cases h; done) | skip
    rename_i vs hvs _ v H2 hc
    simp only [Option.some.injEq, Out.go.injEq] at h
    obtain ⟨_, rfl, rfl⟩ := h
    exact ⟨hp f hpf _ _ _ _ hc, .v v, by simp only [qv, wantedS, hvs, hc], rfl, rfl⟩
  case callp f fz xs =>
    simp only [opS] at h
    repeat' (split at h)
    all_goals first | (cases h; done) | skip
    rename_i vs hvs _ v hc
    simp only [Option.some.injEq, Out.go.injEq] at h
    obtain ⟨_, rfl, rfl⟩ := h
    exact ⟨rfl, .v v, by simp only [qv, wantedS, hvs, hc, Option.map_some], rfl, rfl⟩
  all_goals exact key (fun f xs hc => by cases hc) (fun f fz xs hc => by cases hc) h

theorem quiet_stp (hp : PureC pf cl) (hq : quiet (kindOf pf i.op) = true) (h : stp cl i e H = some (e', H')) : H' = H ∧ ∃ x, qv cl i e H = some x ∧ x.isLv = false ∧ e' = setDst i.dst x e := by
  unfold stp at h
  cases hw : wantedS e i.guard with
  | none => rw [hw] at h; cases h
  | some b =>
    rw [hw] at h
    cases b with
    | false =>
      simp only [Option.some.injEq, Prod.mk.injEq] at h
      obtain ⟨rfl, rfl⟩ := h
      exact ⟨rfl, .un, by simp only [qv, hw], rfl, rfl⟩
    | true =>
      simp only at h
      cases ho : opS cl i.dst e H i.op with
      | none => rw [ho] at h; cases h
      | some o =>
        rw [ho] at h
        cases o with
        | pan v e2 H2 => cases h
        | go q e2 H2 =>
          simp only [Option.some.injEq, Prod.mk.injEq] at h
          obtain ⟨rfl, rfl⟩ := h
          obtain ⟨h1, x, h2, h3, h4⟩ := quiet_op hp hq ho
          refine ⟨h1, x, ?_, h3, h4⟩
          simp only [qv, wantedS] at h2
          simp only [qv, hw]
          exact h2

theorem stp_quiet (hp : PureC pf cl) (hq : quiet (kindOf pf i.op) = true) {x : Sl} (h : qv cl i e H = some x) : stp cl i e H = some (setDst i.dst x e, H) := by
  unfold qv at h
  unfold stp
  cases hw : wantedS e i.guard with
  | none => rw [hw] at h; cases h
  | some b =>
    rw [hw] at h
    cases b with
    | false => simp only [Option.some.injEq] at h; subst h; rfl
    | true =>
      simp only at h ⊢
      obtain ⟨dst, op, guard⟩ := i
      simp only at h hq ⊢
      cases op <;> try (simp only [kindOf, quiet, Bool.false_eq_true] at hq; done)
      case call f xs =>
        have hpf : pf f = true := by
          by_cases hb : pf f = true
          · exact hb
          · simp [kindOf, quiet, hb] at hq
        simp only [opS] at h ⊢
        repeat' (split at h)
        all_goals first | (cases h; done) | skip
        rename_i vs hvs _ v H2 hc
        simp only [Option.some.injEq] at h
        subst h
        obtain rfl := hp f hpf _ _ _ _ hc
        simp only [hvs, hc]
      case callp f fz xs =>
        simp only [opS] at h ⊢
        cases hvs : allAV e xs with
        | none => rw [hvs] at h; cases h
        | some vs =>
          rw [hvs] at h
          simp only [Option.map_eq_some_iff] at h ⊢
          obtain ⟨v, hv, rfl⟩ := h
          rw [hv]
      all_goals (simp only at h; simp only [opS, h])

theorem stp_off {D : Nat → Prop} (h : OffP D e e') (hx : ∀ pf, kindOf pf i.op ≠ .x) (hxd : ∀ s, i.dst = some s → ¬ D s) (hd : ∀ s ∈ i.looks, ¬ D s) {e1 : Env} {H1 : Heap} (hs : stp cl i e H = some (e1, H1)) :
    ∃ e1', stp cl i e' H = some (e1', H1) ∧ OffP D e1 e1' := by
  unfold stp at hs ⊢
  rw [← wanted_sames (i := i) (e := e) (e' := e') fun s k => off_sames h (hd s k)]
  cases hw : wantedS e i.guard with
  | none => rw [hw] at hs; cases hs
  | some b =>
    rw [hw] at hs
    cases b with
    | false =>
      simp only [Option.some.injEq, Prod.mk.injEq] at hs
      obtain ⟨rfl, rfl⟩ := hs
      exact ⟨_, rfl, off_set h hxd _⟩
    | true =>
      simp only at hs ⊢
      cases ho : opS cl i.dst e H i.op with
      | none => rw [ho] at hs; cases hs
      | some o =>
        rw [ho] at hs
        cases o with
        | pan v e2 H2 => cases hs
        | go q e2 H2 =>
          simp only [Option.some.injEq, Prod.mk.injEq] at hs
          obtain ⟨rfl, rfl⟩ := hs
          obtain ⟨e2', k1, k2⟩ := opS_off h hx hxd (fun s k => hd s (by simp [AInstr.looks, k])) ho
          exact ⟨e2', by rw [k1], k2⟩

theorem runS_off {D : Nat → Prop} : ∀ {l : List AInstr} {e e' : Env} {H : Heap}, OffP D e e' → (∀ i ∈ l, (∀ pf, kindOf pf i.op ≠ .x) ∧ (∀ s, i.dst = some s → ¬ D s) ∧ ∀ s ∈ i.looks, ¬ D s) → ∀ {e1 : Env} {H1 : Heap}, runS cl l e H = some (e1, H1) →
    ∃ e1', runS cl l e' H = some (e1', H1) ∧ OffP D e1 e1'
  | [], e, e', H, h, _, e1, H1, hs => by
    simp only [runS, Option.some.injEq, Prod.mk.injEq] at hs
    obtain ⟨rfl, rfl⟩ := hs
    exact ⟨e', rfl, h⟩
  | i :: l, e, e', H, h, hl, e1, H1, hs => by
    simp only [runS] at hs ⊢
    cases h1 : stp cl i e H with
    | none => rw [h1] at hs; cases hs
    | some p =>
      obtain ⟨e2, H2⟩ := p
      rw [h1] at hs
      obtain ⟨k1, k2, k3⟩ := hl i (by simp)
      obtain ⟨e2', m1, m2⟩ := stp_off h k1 k2 k3 h1
      rw [m1]
      exact runS_off m2 (fun j hj => hl j (by simp [hj])) hs

theorem stp_sames (hx : ∀ pf, kindOf pf i.op ≠ .x) (h : stp cl i e H = some (e', H')) {s : Nat} (hs : i.dst ≠ some s) : Sames (e.get s) (e'.get s) := by
  have hset : ∀ x, Sames (e.get s) ((setDst i.dst x e).get s) := fun x => by
    cases hd : i.dst with
    | none => exact .inl rfl
    | some k =>
      refine .inl ?_
      have hne : s ≠ k := fun he => hs (he ▸ hd)
      simp [setDst, get_cons, hne]
  have hcons : ∀ {k cs}, (i.dst = some k ∨ ∃ cs', e.get k = .lv cs') → Sames (e.get s) (Env.get ((k, .lv cs) :: e) s) := fun {k cs} hk => by
    by_cases hsk : s = k
    · subst hsk
      rcases hk with hk | ⟨cs', hk⟩
      · exact absurd hk hs
      · exact .inr ⟨by rw [hk]; rfl, by simp [get_cons, Sl.isLv]⟩
    · exact .inl (by simp [get_cons, hsk])
  unfold stp at h
  cases hw : wantedS e i.guard with
  | none => rw [hw] at h; cases h
  | some b =>
    rw [hw] at h
    cases b with
    | false =>
      simp only [Option.some.injEq, Prod.mk.injEq] at h
      obtain ⟨rfl, rfl⟩ := h
      exact hset _
    | true =>
      simp only at h
      have ho : ∃ q, opS cl i.dst e H i.op = some (.go q e' H') := by
        split at h
        · rename_i q e2 H2 ho
          simp only [Option.some.injEq, Prod.mk.injEq] at h
          obtain ⟨rfl, rfl⟩ := h
          exact ⟨q, ho⟩
        · cases h
      obtain ⟨q, ho⟩ := ho
      obtain ⟨dst, op, guard⟩ := i
      simp only at ho hset hcons hs hx
      cases op
      case thaw sz s => exact absurd rfl (hx fun _ => true)
      case frz f s => exact absurd rfl (hx fun _ => true)
      case pan y => exact absurd rfl (hx fun _ => true)
      case st sz y z =>
        simp only [opS] at ho
        repeat' (split at ho)
        all_goals first | (cases ho; done) | skip
        rename_i w hw2 hl _ e3 H3 hst
        simp only [Option.some.injEq, Out.go.injEq] at ho
        obtain ⟨_, rfl, rfl⟩ := ho
        unfold stS at hst
        repeat' (split at hst)
        all_goals first
          | (cases hst; done)
          | (simp only [Option.some.injEq, Prod.mk.injEq] at hst; obtain ⟨rfl, rfl⟩ := hst; first | exact .inl rfl | (rename_i cs hcs _; exact hcons (.inr ⟨cs, hcs⟩)))
      all_goals
        simp only [opS] at ho
        repeat' (split at ho)
        all_goals first
          | (cases ho; done)
          | (simp only [Option.some.injEq, Out.go.injEq] at ho
             obtain ⟨_, rfl, rfl⟩ := ho
             first | exact hset _ | exact hcons (.inl rfl))
end
end Ey
