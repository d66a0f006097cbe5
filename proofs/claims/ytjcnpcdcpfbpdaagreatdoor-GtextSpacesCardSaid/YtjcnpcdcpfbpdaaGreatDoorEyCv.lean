/- Bytes to text and back. -/
import Derived.Test.YtjcnpcdcpfbpdaaGreatDoorEyOp16
import Derived.Laws.IdiomStrings
namespace Ey
open Go Go.RowKit

section
variable {C : Cx} {g : Gh} {own : Own} {B : Nat} {H : Heap} {w : World} {env : Env} {a : Act} {n : Nat} {L : List Nat}

theorem bytes_cells : ∀ {ys : List AV} {s : List UInt8}, ys.mapM byteOf = some s → (∀ y ∈ ys, y.cells.length = 1) ∧ flat ys = ys
  | [], _, _ => ⟨fun y hy => by simp at hy, rfl⟩
  | y :: ys, s, h => by
    simp only [List.mapM_cons, Option.bind_eq_bind, Option.bind_eq_some_iff] at h
    obtain ⟨b, hb, r, hr, _⟩ := h
    obtain ⟨h1, h2⟩ := bytes_cells hr
    have hy : y.cells = [y] := by
      unfold byteOf at hb
      split at hb
      · rfl
      · cases hb
    refine ⟨fun z hz => ?_, ?_⟩
    · rcases List.mem_cons.1 hz with rfl | hz
      · rw [hy]; rfl
      · exact h1 z hz
    · simp only [flat, List.flatMap_cons] at h2 ⊢
      rw [hy, h2]; rfl

theorem bytes_ints : ∀ {ys : List AV} {s : List UInt8}, ys.mapM byteOf = some s → ∀ {news : List Value}, CR C g ys news → news = (s.map fun b => (b.toNat : Int)).map (Value.int .u8)
  | [], s, h, news, hr => by
    simp at h; subst h
    exact List.eq_nil_of_length_eq_zero hr.len.symm
  | y :: ys, s, h, news, hr => by
    simp only [List.mapM_cons, Option.bind_eq_bind, Option.bind_eq_some_iff] at h
    obtain ⟨b, hb, r, hr', hs⟩ := h
    simp at hs; subst hs
    cases news with
    | nil => have := hr.len; simp at this
    | cons v news =>
      have ih := bytes_ints hr' (news := news) ⟨by simpa using hr.len, fun c hc => hr.one c (List.mem_cons_of_mem _ hc), fun i x u hx hu => hr.rel (i + 1) x u (by simpa using hx) (by simpa using hu)⟩
      have h1 := hr.rel 0 y v rfl rfl
      rw [ih]
      unfold byteOf at hb
      split at hb
      · rename_i m
        split at hb
        · rename_i hm
          simp at hb; subst hb
          cases h1
          have : ((UInt8.ofNat m.toNat).toNat : Int) = m := by
            rw [UInt8.toNat_ofNat']; omega
          simp only [List.map_cons, this]
        · cases hb
      · cases hb

theorem cvb_sim (hS : St C g own B H w) {src dst : TypeId} (hs : bytesTy C.P src = true) (hd : strTy C.P dst = true) {x : AV} {v : Value} (hx : VR C g x v) (hn : ∀ s, x ≠ .str s) {ys : List AV} (hy : elemsOf H 1 x = some ys) {s : List UInt8} (hb : ys.mapM byteOf = some s) :
    ∃ r, (Go.convert src dst v).run C.P w = .ok r w ∧ VR C g (.str s) r := by
  obtain ⟨e, i, hu, hu8, _⟩ := bytesTy_is hs
  have hds := strTy_is hd
  obtain ⟨h1, h2, news, h3, h4⟩ := elems_run hS (Nat.lt_succ_self 0) hx hy
  rw [(bytes_cells hb).2] at h3
  have hv : ∃ ad len cap, v = .slice ad len cap ∧ (ad = none → len = 0) := by
    unfold elemsOf at hy
    split at hy
    · cases hx with
      | nil => exact ⟨_, _, _, rfl, fun _ => rfl⟩
      | list => exact ⟨_, _, _, rfl, fun h => by cases h⟩
    · cases hx with
      | cap0 ad _ => exact ⟨_, _, _, rfl, fun h => by cases h⟩
    · rename_i s'; exact absurd rfl (hn s')
    · rcases ms_inv hx with ⟨_, _, _, _, h, _⟩ | ⟨_, _, _, _, ad, h, _⟩
      · exact ⟨_, _, _, h, fun _ => rfl⟩
      · exact ⟨_, _, _, h, fun h => by cases h⟩
    · cases hy
  obtain ⟨ad, len, cap, rfl, hnone⟩ := hv
  have hlen : len = ys.length := by
    simp only [Builtin.lenOf, Sem.run_pure] at h1
    injection h1
  rw [run_convert_bytes_string w src dst e ad len cap hu hu8 hds]
  cases ad with
  | none =>
    have h0 := hnone rfl
    subst h0
    have : ys = [] := List.eq_nil_of_length_eq_zero hlen.symm
    subst this
    simp at hb
    subst hb
    exact ⟨.string .empty, rfl, VR.str (C := C) (g := g) ByteArray.empty⟩
  | some ad =>
    have h5 := h4 w (fun _ => rfl)
    simp only [Builtin.firstCells, Nat.mul_one] at h5
    rw [← hlen] at h5
    have h6 := bytes_ints hb h3
    rw [h6] at h5
    refine ⟨.string ⟨s.toArray⟩, ?_, ?_⟩
    · rw [run_bytesToString w ad len cap _ h5, foldl_push_byteCells]
      rw [show ByteArray.empty.data = #[] from rfl]
      simp
    · have := VR.str (C := C) (g := g) ⟨s.toArray⟩
      simpa using this

theorem list_new (hS : St C g own B H w) (hF : Fr C g own w env a.tmps n L) {w1 : World} (hN : New w w1) {xs : List AV} {sz cap : Nat} (h0 : 0 < sz) (hsz : ∀ x ∈ xs, x.cells.length = sz) (hcap : xs.length ≤ cap) {c : Array Value}
    (hcell : ∀ j, w1.cell? ⟨w.heap.size, j, none⟩ = c[j]?) (hcs : CR C g (flat xs) (c.toList.take (xs.length * sz))) :
    ∃ g' own', VR C g' (.list false xs) (.slice (some ⟨w.heap.size, 0, none⟩) xs.length cap) ∧ Ext g own B H w g' own' H w1 ∧ St C g' own' B H w1 ∧ Fr C g' own' w1 env a.tmps n L := by
  have hle := Gh.le_grow hS fun j => c[j]?
  refine ⟨_, _, ?_, Ext.grow hS hN (fun j => c[j]?) (fun _ => .imm), hS.grow hN _ _ (fun o v h => ⟨rfl, by rw [hcell]; exact h⟩), hF.grow hS hN _ _⟩
  have hlen := hcs.len
  rw [flat_len hsz] at hlen
  have hin : ∀ i j, i < xs.length → j < sz → i * sz + j < xs.length * sz ∧ i * sz + j < c.size := fun i j hi hj => by
    have := idx_lt hi (Nat.le_refl _) hj
    simp at hlen
    exact ⟨this, by omega⟩
  refine .list xs w.heap.size 0 cap sz (fun i j => c.getD (i * sz + j) undef) hcap (fun i x hx => ⟨hsz x (List.mem_of_getElem? hx), fun e he => ?_⟩) (fun i x hx e => by have := hsz x (List.mem_of_getElem? hx); rw [e] at this; simp at this; omega) (fun i j hi hj => ?_) (fun i j x y hx hy => ?_)
  · exact hcs.one e (List.mem_flatMap.2 ⟨x, List.mem_of_getElem? hx, he⟩)
  · have := (hin i j hi hj).2
    simp [Gh.grow, this]
  · have hi := (List.getElem?_eq_some_iff.1 hx).1
    have hj : j < sz := by
      have := (List.getElem?_eq_some_iff.1 hy).1
      have := hsz x (List.mem_of_getElem? hx)
      omega
    obtain ⟨h1, h1'⟩ := hin i j hi hj
    have h2 := flat_get hsz hx hj
    exact (hcs.rel (i * sz + j) y (c.getD (i * sz + j) undef) (by rw [h2]; exact hy) (by rw [List.getElem?_take, if_pos h1]; simp [h1'])).mono hle

/-- text to bytes that are never written -/
theorem cvs_done (hS : St C g own B H w) (hF : Fr C g own w env a.tmps n L) {d : Option Nat} (hd : dstOK n L d) {src dst : TypeId} (hs : strTy C.P src = true) (ht : bytesTy C.P dst = true) {s : List UInt8} {v : Value} (hx : VR C g (.str s) v) :
    ∃ r w1, (Go.convert src dst v).run C.P w = .ok r w1 ∧ Done C g own B H w a n L d (setDst d (.v (.list false (s.map fun b => .int .u8 b.toNat))) env) H (.ok (.value r) w1) := by
  obtain ⟨e, i, hu, hu8, _⟩ := bytesTy_is ht
  obtain ⟨bs, rfl, rfl⟩ := str_inv hx
  have hl : bs.data.toList.length = bs.size := Array.length_toList
  have hcap := le_grownCap w bs.size 0 e
  refine ⟨_, _, run_bytes_of_string w src dst e bs (strTy_is hs) hu hu8, ?_⟩
  generalize hK : grownCap w bs.size 0 e = K at hcap ⊢
  generalize hc : bytesRow bs K = c
  have hN : New w (w.drew.alloc (.cells c e (c.size, c.size + 1))) := New.drew_alloc w _
  have hxs : (bs.data.toList.map fun b => AV.int .u8 b.toNat).length = bs.size := by simp
  obtain ⟨g', own', k1, k2, k3, k4⟩ := list_new (B := B) hS hF hN (xs := bs.data.toList.map fun b => AV.int .u8 b.toNat) (sz := 1) (cap := K) (by omega) (fun x hx => by
      obtain ⟨b, _, rfl⟩ := List.mem_map.1 hx; rfl) (by rw [hxs]; exact hcap) (c := c) (fun j => by
      simp only [World.cell?]
      rw [show (w.drew.alloc (.cells c e (c.size, c.size + 1))).heap[w.heap.size]? = some (.cells c e (c.size, c.size + 1)) from heap_alloc_new w.drew _]
      rfl) (by
      rw [flat_bytes, hxs, Nat.mul_one]
      subst hc
      have htake : (bytesRow bs K).toList.take bs.size = bs.data.toList.map fun b => Value.int .u8 b.toNat := by
        unfold bytesRow
        rw [Array.toList_append, List.take_append_of_le_length (by simp [hl])]
        rw [List.take_of_length_le (by simp [hl])]
        simp
      rw [htake]
      refine ⟨by simp, fun c hc => ?_, fun i x y hx hy => ?_⟩
      · obtain ⟨b, _, rfl⟩ := List.mem_map.1 hc; rfl
      · simp only [List.getElem?_map, Option.map_eq_some_iff] at hx hy
        obtain ⟨b1, e1, rfl⟩ := hx
        obtain ⟨b2, e2, rfl⟩ := hy
        rw [e1] at e2
        simp at e2
        subst e2
        exact .int _ _)
  rw [hxs] at k1
  exact ⟨g', own', _, _, .inl rfl, k2, k3, k4.put hd (x := .v _) k1 rfl⟩

end
end Ey
