/- append: all its ways. -/
import Derived.Test.YtjcnpcdcpfbpdaaGreatDoorEyOp14
namespace Ey
open Go Go.RowKit

section
variable {C : Cx} {g : Gh} {own : Own} {B : Nat} {H : Heap} {w : World} {env : Env} {a : Act} {n : Nat} {L : List Nat}

theorem done_of_chg (hS : St C g own B H w) (hF : Fr C g own w env a.tmps n L) {d : Option Nat} (hd : dstOK n L d) {g' : Gh} {own' : Own} {H' : Heap} {w' : World} {id0 : Nat} (h : Chg C g own B H w g' own' H' w' id0) {x : AV} {v : Value} (hx : VR C g' x v) :
    Done C g own B H w a n L d (setDst d (.v x) env) H' (.ok (.value v) w') :=
  ⟨g', own', w', v, .inl rfl, h.toExt, h.st hS, (h.fr hF).put hd (x := .v x) hx rfl⟩

theorem flat_one {zs : List AV} (h : ∀ x ∈ zs, ∀ c ∈ x.cells, c.one = true) : ∀ c ∈ flat zs, c.one = true := fun c hc => by
  obtain ⟨y, hy, hc⟩ := List.mem_flatMap.1 hc
  exact h y hy c hc

/-- all of an array's cells, as the model reads them -/
theorem arr_run (hS : St C g own B H w) {id : Nat} {nl : Bool} {sz : Nat} (h0 : 0 < sz) {xs : List AV} (hg : H.get id = some (.arr nl sz xs)) {b o cap : Nat} (hp : g.ar id xs.length = some ⟨some (b, o), cap, sz⟩) :
    ∃ olds : List Value, CR C g (flat xs) olds ∧ ∀ w1 : World, (∀ q, w1.cell? q = w.cell? q) → ∀ c, (Builtin.firstCells sz xs.length (.slice (some ⟨b, o, none⟩) xs.length c)).run C.P w1 = .ok olds.toArray w1 := by
  have hx : VR C g (.ms id xs.length 0 xs.length) (.slice (some ⟨b, o, none⟩) xs.length (cap - 0)) := by
    obtain ⟨⟨ph, h1, h2, h3⟩, _⟩ := hS.arr _ _ _ _ hg
    rw [hp] at h1; simp at h1; subst h1
    exact .ms id xs.length 0 xs.length b o cap sz _ hp (by have h4 := h3.2.1; simp only at h4; omega) ⟨rfl, .inr (by simp)⟩
  have he : elemsOf H sz (.ms id xs.length 0 xs.length) = some xs := by simp [elemsOf, hg]
  obtain ⟨_, _, olds, h4, h5⟩ := elems_run hS h0 hx he
  refine ⟨olds, h4, fun w1 hw1 c => ?_⟩
  have := h5 w1 hw1
  simpa [Builtin.firstCells] using this

theorem ms_inv {id ver lo len : Nat} {v : Value} (h : VR C g (.ms id ver lo len) v) : (∃ sz, ver = 0 ∧ lo = 0 ∧ len = 0 ∧ v = .slice none 0 0 ∧ g.ar id 0 = some ⟨none, 0, sz⟩) ∨
    ∃ b o cap sz ad, v = .slice (some ad) len (cap - lo) ∧ g.ar id ver = some ⟨some (b, o), cap, sz⟩ ∧ lo + len ≤ cap ∧ ad.spot = none ∧ (lo = cap ∨ ad = ⟨b, o + lo * sz, none⟩) := by
  generalize hx : AV.ms id ver lo len = x at h
  cases h <;> try (simp at hx; done)
  · rename_i id' sz h
    simp at hx; obtain ⟨rfl, rfl, rfl, rfl⟩ := hx
    exact .inl ⟨sz, rfl, rfl, rfl, rfl, h⟩
  · rename_i id' ver' lo' len' b o cap sz ad h hl ha
    simp at hx; obtain ⟨rfl, rfl, rfl, rfl⟩ := hx
    exact .inr ⟨b, o, cap, sz, ad, rfl, h, hl, ha⟩

/-- nothing is appended -/
theorem run_app_none {t tx ty e : TypeId} {d : TypeDesc} {i : TypeInfo} {sz : Nat} (hu : C.P.underlying t = some (.slice e)) (hx : C.P.underlying tx = some d) (hd : SrcTy d) (hi : C.P.info? e = some i) (hsz : i.size = sz)
    {v : Value} (hm : (Builtin.lenOf v).run C.P w = .ok 0 w) (hf : (Builtin.firstCells sz 0 v).run C.P w = .ok #[] w) {base : Option Addr} {sLen sCap : Nat} (hroom : sLen ≤ sCap) :
    (Builtin.append_ #[t, tx] ty #[.slice base sLen sCap, v]).run C.P w = .ok (.slice base sLen sCap) w := by
  subst hsz
  cases base <;> rcases hd with ⟨e', rfl⟩ | rfl <;>
    simp [Builtin.append_, run_underlying hu, run_underlying hx, Go.sizeOf, typeInfo, hi, hm, hroom, hf, storeCells]

theorem cells_drew (w : World) : ∀ q, w.drew.cell? q = w.cell? q := fun _ => rfl

def splice (xs ys : List AV) (s : Nat) : List AV := xs.take s ++ ys ++ xs.drop (s + ys.length)

theorem splice_get {xs ys : List AV} {s : Nat} (h : s ≤ xs.length) (i : Nat) : (splice xs ys s)[i]? = if i < s then xs[i]? else if i < s + ys.length then ys[i - s]? else xs[i]? := by
  unfold splice
  by_cases h1 : i < s
  · rw [if_pos h1, List.append_assoc, List.getElem?_append_left (by simp; omega), List.getElem?_take, if_pos h1]
  · rw [if_neg h1, List.append_assoc, List.getElem?_append_right (by simp; omega)]
    simp only [List.length_take]
    rw [Nat.min_eq_left (by omega)]
    by_cases h2 : i < s + ys.length
    · rw [if_pos h2, List.getElem?_append_left (by omega)]
    · rw [if_neg h2, List.getElem?_append_right (by omega), List.getElem?_drop]
      congr 1
      omega

theorem splice_len {xs ys : List AV} {s : Nat} (h : s ≤ xs.length) : (splice xs ys s).length = max xs.length (s + ys.length) := by
  simp [splice]; omega

/-- elements written in place, over some or behind the last one -/
theorem chg_inplace (hS : St C g own B H w) {id : Nat} {sz : Nat} (h0 : 0 < sz) {xs ys : List AV} (hg : H.get id = some (.arr false sz xs)) {b o cap : Nat} (hpar : g.ar id xs.length = some ⟨some (b, o), cap, sz⟩) {s : Nat} (hs : s ≤ xs.length)
    (hcap : s + ys.length ≤ cap) (hro : H.ro ≤ id) (hys : ∀ y ∈ ys, y.cells.length = sz) {news : List Value} (hn : CR C g (flat ys) news) (hy0 : 0 < ys.length) {w' : World} (hW : Wr w w' b (o + s * sz) news) :
    ∃ g', Chg C g own B H w g' own (H.put id (some (.arr false sz (splice xs ys s)))) w' id ∧ g'.ar id (splice xs ys s).length = some ⟨some (b, o), cap, sz⟩ := by
  obtain ⟨⟨ph, h1, h2, h3⟩, hvers⟩ := hS.arr _ _ _ _ hg
  rw [hpar] at h1; simp at h1; subst h1
  obtain ⟨_, k2, k3, k4, k5⟩ := h3
  simp only at k2 k4
  have hnl := hn.len
  rw [flat_len hys] at hnl
  let ph : Ph := ⟨some (b, o), cap, sz⟩
  let g' : Gh := { g with ar := fun i v => if i = id ∧ v = (splice xs ys s).length then some ph else g.ar i v }
  have hslen := splice_len (ys := ys) hs
  have hle : g.Le g' := ⟨fun _ _ _ h => h, fun _ _ h => h, fun i v p h => by
    by_cases e : i = id ∧ v = (splice xs ys s).length
    · obtain ⟨rfl, rfl⟩ := e
      simp only [g', and_self, if_true]
      have hv := (hvers _ _ h).2
      have : (splice xs ys s).length = xs.length := by omega
      rw [this, hpar] at h
      exact h
    · simp only [g', if_neg e]; exact h⟩
  have hrange : ∀ j, j < news.length → s * sz + j < cap * sz := fun j hj => by
    have h1 : (s + ys.length) * sz ≤ cap * sz := Nat.mul_le_mul_right _ hcap
    rw [Nat.add_mul] at h1
    omega
  have how : ∀ j, j < news.length → own b (o + s * sz + j) = .heap id := fun j hj => by
    have := (k4 _ (hrange j hj)).1
    rwa [← Nat.add_assoc] at this
  have hB : B ≤ b := hS.base b (o + 0) ⟨id, .inl (k4 0 (by have := Nat.mul_le_mul_right sz (show 1 ≤ cap by omega); omega)).1⟩
  refine ⟨g', chg_wr hS hW how (get_lt hS hg) hro hle rfl rfl (fun i hi v => by simp [g', hi]) (fun bl h => ?_) (hW.below B hB), by simp [g', ph]⟩
  simp only [Option.some.injEq] at h; subst h
  have hel : ∀ (i : Nat) (x : AV), (splice xs ys s)[i]? = some x → ((i < s ∨ s + ys.length ≤ i) ∧ xs[i]? = some x) ∨ (s ≤ i ∧ i < s + ys.length ∧ ys[i - s]? = some x) := fun i x hx => by
    rw [splice_get hs] at hx
    split at hx
    · exact .inl ⟨.inl (by assumption), hx⟩
    · split at hx
      · exact .inr ⟨by omega, by assumption, hx⟩
      · exact .inl ⟨.inr (by omega), hx⟩
  refine ⟨⟨ph, by simp [g', ph], rfl, ⟨rfl, h0⟩, by simp only [ph]; omega, fun i x hx => ?_, fun k hk => ?_, fun i x j y hx hy => ?_⟩, fun v p h => ?_⟩
  · rcases hel i x hx with ⟨_, h⟩ | ⟨_, _, h⟩
    · exact k3 i x h
    · have hm := List.mem_of_getElem? h
      exact ⟨hys x hm, fun c hc => hn.one c (List.mem_flatMap.2 ⟨x, hm, hc⟩)⟩
  · obtain ⟨m1, u, m2, m3, m4⟩ := k4 k hk
    by_cases hin : o + s * sz ≤ o + k ∧ o + k < o + s * sz + news.length
    · have hjv : o + k - (o + s * sz) < news.length := by omega
      have := hW.inn _ _ (List.getElem?_eq_getElem hjv)
      rw [show o + s * sz + (o + k - (o + s * sz)) = o + k by omega] at this
      exact ⟨m1, _, this, by rw [hW.frozen]; exact m3, trivial⟩
    · exact ⟨m1, u, by rw [hW.out b (o + k) (by rintro ⟨_, p1, p2⟩; exact hin ⟨p1, p2⟩)]; exact m2, by rw [hW.frozen]; exact m3, m4⟩
  · rcases hel i x hx with ⟨hi, h⟩ | ⟨hi1, hi2, h⟩
    · obtain ⟨v, p1, p2⟩ := k5 i x j y h hy
      have hj : j < sz := by
        have := (List.getElem?_eq_some_iff.1 hy).1
        have := (k3 i x h).1
        omega
      refine ⟨v, ?_, p2.mono hle⟩
      rw [hW.out b (o + i * sz + j) ?_]
      · exact p1
      · rintro ⟨_, q1, q2⟩
        rcases hi with hi | hi
        · have h1 : (i + 1) * sz ≤ s * sz := Nat.mul_le_mul_right _ (by omega)
          rw [Nat.add_mul] at h1
          omega
        · have h1 : (s + ys.length) * sz ≤ i * sz := Nat.mul_le_mul_right _ hi
          rw [Nat.add_mul] at h1
          omega
    · have hj : j < sz := by
        have := (List.getElem?_eq_some_iff.1 hy).1
        have := hys x (List.mem_of_getElem? h)
        omega
      have hfl := flat_get hys h hj
      rw [hy] at hfl
      have hjl := (List.getElem?_eq_some_iff.1 hfl).1
      rw [hn.len] at hjl
      have hin := hW.inn _ _ (List.getElem?_eq_getElem hjl)
      have hii : i * sz = s * sz + (i - s) * sz := by rw [← Nat.add_mul]; congr 1; omega
      rw [show o + s * sz + ((i - s) * sz + j) = o + i * sz + j by omega] at hin
      exact ⟨_, hin, (hn.rel _ y _ hfl (List.getElem?_eq_getElem hjl)).mono hle⟩
  · simp only [g', true_and] at h
    split at h
    · rename_i hv; simp at h; subst h; exact ⟨rfl, by omega⟩
    · have := hvers _ _ h; exact ⟨this.1, by omega⟩

/-- a nil slice becomes an array -/
theorem chg_nil (hS : St C g own B H w) (sz : Nat) : ∃ g', Chg C g own B H w g' own (H.new (.arr true sz [])) w H.next ∧ VR C g' (.ms H.next 0 0 0) (.slice none 0 0) := by
  obtain ⟨hn1, hn2, hn3⟩ := hS.next H.next (Nat.le_refl _)
  let g' : Gh := { g with ar := fun i v => if i = H.next ∧ v = 0 then some ⟨none, 0, sz⟩ else g.ar i v }
  have hle : g.Le g' := ⟨fun _ _ _ h => h, fun _ _ h => h, fun i v p h => by
    by_cases e : i = H.next ∧ v = 0
    · obtain ⟨rfl, rfl⟩ := e; rw [hn3] at h; cases h
    · simp only [g', if_neg e]; exact h⟩
  refine ⟨g', ⟨hle, fun _ _ _ _ => ⟨rfl, rfl, rfl⟩, fun _ _ _ _ _ hm => hm, hS.imm, fun _ _ => rfl, fun _ => rfl, fun i hi v => by simp [g', hi], fun i hi => by simp [Heap.new, hi], fun bl hb => ?_, rfl, by simp [Heap.new], by simp [Heap.new], hS.ro, hS.ext, hS.base, .refl _ _⟩, .msNil _ sz (by simp [g'])⟩
  simp only [Heap.new, if_true, Option.some.injEq] at hb
  subst hb
  refine ⟨⟨⟨none, 0, sz⟩, by simp [g'], rfl, rfl, rfl, rfl⟩, fun v p h => ?_⟩
  simp only [g', true_and] at h
  split at h
  · simp at h; subst h; exact ⟨rfl, by omega⟩
  · rw [hn3] at h; cases h

set_option maxHeartbeats 1000000 in
theorem app_done (hS : St C g own B H w) (hF : Fr C g own w env a.tmps n L) {d : Option Nat} (hd : dstOK n L d) {t tx ty : TypeId} {sz : Nat} (ht : appOK C.P t tx sz = true) {p q : AV} {vp vq : Value} (hp : VR C g p vp) (hq : VR C g q vq)
    {r : AV} {H' : Heap} (hr : appS H sz p q = some (r, H')) :
    ∃ res, (do pure (Next.value (← Builtin.append_ #[t, tx] ty #[vp, vq])) : Sem Next).run C.P w = res ∧ Done C g own B H w a n L d (setDst d (.v r) env) H' res := by
  obtain ⟨e, de, i, z, hu, hx, hsrc, hi, hsz, h0, hby, hz, hzs⟩ := appOK_is ht
  refine ⟨_, rfl, ?_⟩
  unfold appS at hr
  split at hr
  · simp at hr
  rename_i ys hys
  obtain ⟨hlen, hysz, news, hnews, hfirst⟩ := elems_run hS h0 hq hys
  have hnl := hnews.len
  rw [flat_len hysz] at hnl
  have hone : ∀ u ∈ news, u.oneCell' = true := fun u hu => by
    obtain ⟨j, hj, rfl⟩ := List.mem_iff_getElem.1 hu
    have hj' : j < (flat ys).length := by rw [hnews.len]; exact hj
    exact (hnews.rel j _ _ (List.getElem?_eq_getElem hj') (List.getElem?_eq_getElem hj)).oneCell (hnews.one _ (List.getElem_mem hj'))
  -- a slice that comes to lie in a new block
  have grow : ∀ {base : Option Addr} {sCap : Nat} {xs : List AV} {olds : List Value} {id : Nat} {K : Heap}, (∀ x ∈ xs, x.cells.length = sz) → CR C g (flat xs) olds →
      (Builtin.firstCells sz xs.length (.slice base xs.length sCap)).run C.P w.drew = .ok olds.toArray w.drew → sCap < xs.length + ys.length → xs.length + ys.length ≤ mostLen →
      K.get id = some (.arr false sz (xs ++ ys)) → (∀ i, i ≠ id → K.get i = H.get i) → K.ro = H.ro → H.next ≤ K.next → id < K.next → H.ro ≤ id → (∀ v p, g.ar id v = some p → p.sz = sz ∧ v < (xs ++ ys).length) →
      Done C g own B H w a n L d (setDst d (.v (.ms id (xs ++ ys).length 0 (xs ++ ys).length)) env) K ((do pure (Next.value (← Builtin.append_ #[t, tx] ty #[.slice base xs.length sCap, vq])) : Sem Next).run C.P w) := by
    intro base sCap xs olds id K hxs ho hfo hg hmost k1 k2 k3 k4 k5 k6 k7
    have hrun := run_app_more (C := C) (ty := ty) hu hx hsrc hi hsz hby hz hlen (hfirst w.drew (cells_drew w)) hfo hg hmost
    obtain ⟨m1, m2, m3⟩ := moved_row hxs hysz ho hnews hzs (le_grownCap w (xs.length + ys.length) sCap e)
    obtain ⟨g', hchg, hv⟩ := chg_moved hS (New.drew_alloc w _) (cell_drew_new w _ e) (frozen_drew_new w _ e) h0 m1 (by simpa using le_grownCap w (xs.length + ys.length) sCap e) m2 m3 k1 k2 k3 k4 k5 k6 k7
    simp only [Sem.run_bind, hrun, Result.andThen_ok, Sem.run_pure]
    simp only [List.length_append] at hv ⊢
    exact done_of_chg hS hF hd hchg hv
  split at hr
  -- onto an array
  · rename_i id ver lo len
    split at hr
    · simp at hr
    rename_i hro
    split at hr
    · rename_i nl zz xs hg
      split at hr
      · rename_i hc
        obtain ⟨rfl, hver, hmost⟩ := hc
        have hlt := get_lt hS hg
        obtain ⟨⟨ph, h1, h2, h3⟩, hvers⟩ := hS.arr _ _ _ _ hg
        split at hr
        -- behind its last element
        · rename_i hc2
          obtain ⟨rfl, rfl⟩ := hc2
          simp only [Option.some.injEq, Prod.mk.injEq] at hr
          obtain ⟨rfl, rfl⟩ := hr
          subst hver
          rcases ms_inv hp with ⟨sz', hl, _, _, rfl, hpar⟩ | ⟨b, o, cap, sz', ad, rfl, hpar, hlc, ha⟩
          · obtain rfl : xs = [] := by simpa using hl
            simp only [List.length_nil] at h1 hvers hp
            rw [hpar] at h1; simp at h1; subst h1
            obtain ⟨k1, k2⟩ := h3
            subst k1
            by_cases hy0 : ys = []
            · subst hy0
              have hn0 : news = [] := by simpa using hnl.symm
              subst hn0
              have hrun := run_app_none (C := C) (ty := ty) hu hx hsrc hi hsz hlen (hfirst w (fun _ => rfl)) (base := none) (Nat.le_refl 0)
              simp only [Sem.run_bind, hrun, Result.andThen_ok, Sem.run_pure]
              have hH : H.put id (some (.arr (true && List.isEmpty ([] : List AV)) zz ([] ++ []))) = H := Heap.put_same (by simpa using hg)
              rw [hH]
              exact done_pure hS hF hd rfl (x := .v _) hp rfl
            · have hyl : 0 < ys.length := List.length_pos_iff.2 hy0
              have := grow (base := none) (sCap := 0) (xs := []) (olds := []) (id := id) (K := H.put id (some (.arr (true && ys.isEmpty) zz ([] ++ ys)))) (fun x hx => by simp at hx) ⟨rfl, fun c hc => by simp [flat] at hc, fun i x y hx => by simp [flat] at hx⟩
                (by simp [run_firstCells_none]) (by simpa using hyl) (by simpa using hmost) (by simp [Heap.put, hy0]) (fun i hi => by simp [Heap.put, hi]) rfl (Nat.le_refl _) hlt (by omega)
                (fun v p hp => by have := hvers v p hp; simp at this ⊢; exact ⟨this.1, by omega⟩)
              simpa using this
          · have h1' := h1
            rw [hpar] at h1'; simp at h1'; subst h1'
            simp only at h2 h3
            subst h2
            obtain ⟨k1, k2, k3, k4, k5⟩ := h3
            obtain ⟨rfl, _⟩ := k1
            by_cases hy0 : ys = []
            · subst hy0
              have hn0 : news = [] := by simpa using hnl.symm
              subst hn0
              have hrun := run_app_none (C := C) (ty := ty) hu hx hsrc hi hsz hlen (hfirst w (fun _ => rfl)) (base := some ad) (sLen := xs.length) (sCap := cap - 0) (by omega)
              simp only [Sem.run_bind, hrun, Result.andThen_ok, Sem.run_pure]
              have hH : H.put id (some (.arr (false && List.isEmpty ([] : List AV)) sz' (xs ++ []))) = H := Heap.put_same (by simpa using hg)
              rw [hH]
              exact done_pure hS hF hd rfl (x := .v _) hp rfl
            have hyl : 0 < ys.length := List.length_pos_iff.2 hy0
            by_cases hc0 : cap = 0
            · subst hc0
              obtain rfl : xs = [] := by simpa using k2
              have := grow (base := some ad) (sCap := 0) (xs := []) (olds := []) (id := id) (K := H.put id (some (.arr (false && ys.isEmpty) sz' ([] ++ ys)))) (fun x hx => by simp at hx) ⟨rfl, fun c hc => by simp [flat] at hc, fun i x y hx => by simp [flat] at hx⟩
                (by simp [Builtin.firstCells, loadCells, loadCellsFrom]) (by simpa using hyl) (by simpa using hmost) (by simp [Heap.put]) (fun i hi => by simp [Heap.put, hi]) rfl (Nat.le_refl _) hlt (by omega)
                (fun v p hp => by have := hvers v p hp; simp at this ⊢; exact ⟨this.1, by omega⟩)
              simpa using this
            obtain rfl : ad = ⟨b, o, none⟩ := by rcases ha.2 with h | h; omega; simpa using h
            by_cases hroom : xs.length + ys.length ≤ cap
            -- there is room
            · have hcell : ∀ k, k < news.length → ∃ u, w.cell? ⟨b, o + xs.length * sz' + k, none⟩ = some u ∧ w.frozen? ⟨b, o + xs.length * sz' + k, none⟩ = false := fun k hk => by
                have h1 : (xs.length + ys.length) * sz' ≤ cap * sz' := Nat.mul_le_mul_right _ hroom
                rw [Nat.add_mul] at h1
                obtain ⟨_, u, m2, m3, _⟩ := k4 (xs.length * sz' + k) (by omega)
                rw [← Nat.add_assoc] at m2 m3
                exact ⟨u, m2, m3⟩
              have hrun := run_app_room (C := C) (ty := ty) hu hx hsrc hi hsz hlen (hfirst w (fun _ => rfl)) (b := b) (o := o) (sLen := xs.length) (sCap := cap - 0) (by omega) (fun k hk => by obtain ⟨u, h, _⟩ := hcell k hk; rw [h]; rfl)
                (fun k hk => by obtain ⟨u, _, h⟩ := hcell k hk; exact h) hone
              have hW := Wr.mk' (w := w) (b := b) (o := o + xs.length * sz') (vs := news) (fun k hk => by obtain ⟨u, h, _⟩ := hcell k hk; rw [h]; rfl)
              obtain ⟨g', hchg, hv⟩ := chg_inplace hS h0 hg hpar (Nat.le_refl _) hroom (by omega) hysz hnews hyl hW
              have hsp : splice xs ys xs.length = xs ++ ys := by simp [splice]
              rw [hsp] at hchg hv
              simp only [Sem.run_bind, hrun, Result.andThen_ok, Sem.run_pure]
              have hbool : (false && ys.isEmpty) = false := rfl
              rw [hbool]
              refine done_of_chg hS hF hd hchg ?_
              have := VR.ms (C := C) (g := g') id (xs ++ ys).length 0 (xs ++ ys).length b o cap sz' ⟨b, o, none⟩ hv (by simp; omega) ⟨rfl, .inr (by simp)⟩
              simpa using this
            · obtain ⟨olds, ho1, ho2⟩ := arr_run hS h0 hg hpar
              have := grow (base := some ⟨b, o, none⟩) (sCap := cap) (xs := xs) (olds := olds) (id := id) (K := H.put id (some (.arr (false && ys.isEmpty) sz' (xs ++ ys)))) (fun x hx => by
                  obtain ⟨i, hi, rfl⟩ := List.mem_iff_getElem.1 hx
                  exact (k3 i _ (List.getElem?_eq_getElem hi)).1) ho1
                (ho2 w.drew (cells_drew w) cap) (by omega) hmost (by simp [Heap.put]) (fun i hi => by simp [Heap.put, hi]) rfl (Nat.le_refl _) hlt (by omega)
                (fun v p hp => by have := hvers v p hp; simp; exact ⟨this.1, by omega⟩)
              simpa using this
        -- over what stands behind
        · split at hr
          · rename_i hfit
            simp only [Option.some.injEq, Prod.mk.injEq] at hr
            obtain ⟨rfl, rfl⟩ := hr
            subst hver
            by_cases hy0 : ys = []
            · subst hy0
              have hn0 : news = [] := by simpa using hnl.symm
              subst hn0
              have hH : H.put id (some (.arr nl zz (xs.take (lo + len) ++ [] ++ xs.drop (lo + len + List.length ([] : List AV))))) = H := Heap.put_same (by simpa using hg)
              rw [hH]
              rcases ms_inv hp with ⟨sz', hl, _, rfl, rfl, hpar⟩ | ⟨b, o, cap, sz', ad, rfl, hpar, hlc, ha⟩
              · have hrun := run_app_none (C := C) (ty := ty) hu hx hsrc hi hsz hlen (hfirst w (fun _ => rfl)) (base := none) (Nat.le_refl 0)
                simp only [Sem.run_bind, hrun, Result.andThen_ok, Sem.run_pure]
                exact done_pure hS hF hd rfl (x := .v _) hp rfl
              · have hrun := run_app_none (C := C) (ty := ty) hu hx hsrc hi hsz hlen (hfirst w (fun _ => rfl)) (base := some ad) (sLen := len) (sCap := cap - lo) (by omega)
                simp only [Sem.run_bind, hrun, Result.andThen_ok, Sem.run_pure]
                exact done_pure hS hF hd rfl (x := .v _) hp rfl
            have hyl : 0 < ys.length := List.length_pos_iff.2 hy0
            rcases ms_inv hp with ⟨sz', hl, _, _, rfl, hpar⟩ | ⟨b, o, cap, sz', ad, rfl, hpar, hlc, ha⟩
            · omega
            · have h1' := h1
              rw [hpar] at h1'; simp at h1'; subst h1'
              simp only at h2 h3
              subst h2
              obtain ⟨k1, k2, k3, k4, k5⟩ := h3
              obtain ⟨rfl, _⟩ := k1
              obtain rfl : ad = ⟨b, o + lo * sz', none⟩ := ha.2.resolve_left (by omega)
              have hcell : ∀ k, k < news.length → ∃ u, w.cell? ⟨b, o + lo * sz' + len * sz' + k, none⟩ = some u ∧ w.frozen? ⟨b, o + lo * sz' + len * sz' + k, none⟩ = false := fun k hk => by
                have h1 : (lo + len + ys.length) * sz' ≤ cap * sz' := Nat.mul_le_mul_right _ (by omega)
                rw [Nat.add_mul, Nat.add_mul] at h1
                obtain ⟨_, u, m2, m3, _⟩ := k4 (lo * sz' + len * sz' + k) (by omega)
                rw [show o + (lo * sz' + len * sz' + k) = o + lo * sz' + len * sz' + k by omega] at m2 m3
                exact ⟨u, m2, m3⟩
              have hrun := run_app_room (C := C) (ty := ty) hu hx hsrc hi hsz hlen (hfirst w (fun _ => rfl)) (b := b) (o := o + lo * sz') (sLen := len) (sCap := cap - lo) (by omega) (fun k hk => by obtain ⟨u, h, _⟩ := hcell k hk; rw [h]; rfl)
                (fun k hk => by obtain ⟨u, _, h⟩ := hcell k hk; exact h) hone
              have hW := Wr.mk' (w := w) (b := b) (o := o + lo * sz' + len * sz') (vs := news) (fun k hk => by obtain ⟨u, h, _⟩ := hcell k hk; rw [h]; rfl)
              have hpos : o + lo * sz' + len * sz' = o + (lo + len) * sz' := by rw [Nat.add_mul]; omega
              rw [hpos] at hW hrun
              obtain ⟨g', hchg, hv⟩ := chg_inplace hS h0 hg hpar (s := lo + len) (by omega) (by omega) (by omega) hysz hnews hyl hW
              have hsl : (splice xs ys (lo + len)).length = xs.length := by rw [splice_len (by omega)]; omega
              rw [hsl] at hv
              simp only [Sem.run_bind, hrun, Result.andThen_ok, Sem.run_pure]
              refine done_of_chg hS hF hd hchg ?_
              exact VR.ms (C := C) (g := g') id xs.length lo (len + ys.length) b o cap sz' ⟨b, o + lo * sz', none⟩ hv (by omega) ⟨rfl, .inr rfl⟩
          · simp at hr
      · simp at hr
    · simp at hr
  -- onto nil
  · split at hr
    · rename_i hmost
      simp only [Option.some.injEq, Prod.mk.injEq] at hr
      obtain ⟨rfl, rfl⟩ := hr
      cases hp
      by_cases hy0 : ys = []
      · subst hy0
        have hn0 : news = [] := by simpa using hnl.symm
        subst hn0
        have hrun := run_app_none (C := C) (ty := ty) hu hx hsrc hi hsz hlen (hfirst w (fun _ => rfl)) (base := none) (Nat.le_refl 0)
        simp only [Sem.run_bind, hrun, Result.andThen_ok, Sem.run_pure]
        obtain ⟨g', hchg, hv⟩ := chg_nil hS sz
        exact done_of_chg hS hF hd hchg hv
      · have hyl : 0 < ys.length := List.length_pos_iff.2 hy0
        obtain ⟨hn1, hn2, hn3⟩ := hS.next H.next (Nat.le_refl _)
        have := grow (base := none) (sCap := 0) (xs := []) (olds := []) (id := H.next) (K := H.new (.arr ys.isEmpty sz ys)) (fun x hx => by simp at hx) ⟨rfl, fun c hc => by simp [flat] at hc, fun i x y hx => by simp [flat] at hx⟩
          (by simp [run_firstCells_none]) (by simpa using hyl) (by simpa using hmost) (by simp [Heap.new, hy0]) (fun i hi => by simp [Heap.new, hi]) rfl (by simp [Heap.new]) (by simp [Heap.new]) hS.ro
          (fun v p hp => by rw [hn3] at hp; cases hp)
        simpa using this
    · simp at hr
  -- onto an empty one
  · split at hr
    · rename_i hmost
      cases hp with
      | cap0 ad hsp =>
        by_cases hy0 : ys = []
        · subst hy0
          simp only [List.isEmpty_nil, if_true, Option.some.injEq, Prod.mk.injEq] at hr
          obtain ⟨rfl, rfl⟩ := hr
          have hn0 : news = [] := by simpa using hnl.symm
          subst hn0
          have hrun := run_app_none (C := C) (ty := ty) hu hx hsrc hi hsz hlen (hfirst w (fun _ => rfl)) (base := some ad) (Nat.le_refl 0)
          simp only [Sem.run_bind, hrun, Result.andThen_ok, Sem.run_pure]
          exact done_pure hS hF hd rfl (x := .v .cap0) (.cap0 ad hsp) rfl
        · have hyl : 0 < ys.length := List.length_pos_iff.2 hy0
          have hie : ys.isEmpty = false := by simpa using hy0
          rw [hie] at hr
          simp only [Bool.false_eq_true, if_false, Option.some.injEq, Prod.mk.injEq] at hr
          obtain ⟨rfl, rfl⟩ := hr
          obtain ⟨hn1, hn2, hn3⟩ := hS.next H.next (Nat.le_refl _)
          have := grow (base := some ad) (sCap := 0) (xs := []) (olds := []) (id := H.next) (K := H.new (.arr false sz ys)) (fun x hx => by simp at hx) ⟨rfl, fun c hc => by simp [flat] at hc, fun i x y hx => by simp [flat] at hx⟩
            (by simp [Builtin.firstCells, loadCells, loadCellsFrom]) (by simpa using hyl) (by simpa using hmost) (by simp [Heap.new]) (fun i hi => by simp [Heap.new, hi]) rfl (by simp [Heap.new]) (by simp [Heap.new]) hS.ro
            (fun v p hp => by rw [hn3] at hp; cases hp)
          simpa using this
    · simp at hr
  · simp at hr
end
end Ey
