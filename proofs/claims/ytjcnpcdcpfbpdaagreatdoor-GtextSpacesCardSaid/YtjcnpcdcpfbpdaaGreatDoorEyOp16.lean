/- make, clear, copy; slices that begin or cease to be written. -/
import Derived.Test.YtjcnpcdcpfbpdaaGreatDoorEyOp15
import Derived.IntWalk
namespace Ey
open Go Go.RowKit

section
variable {C : Cx} {g : Gh} {own : Own} {B : Nat} {H : Heap} {w : World} {env : Env} {a : Act} {n : Nat} {L : List Nat}

def mksOK (P : Program) (t : TypeId) (sz : Nat) (z : AV) : Bool :=
  match P.underlying t with
  | some (.slice e) => zeroTy P e sz z && (match P.info? e with | some i => decide (i.bytes ≤ 65536) | none => false)
  | _ => false

theorem mks_done (hS : St C g own B H w) (hF : Fr C g own w env a.tmps n L) {d : Option Nat} (hd : dstOK n L d) {t : TypeId} {sz : Nat} {z : AV} (ht : mksOK C.P t sz z = true) {kd : IntKind} {k : Int} {v : Value} (hv : VR C g (.int kd k) v)
    (h0 : 0 ≤ k) (hk : k ≤ mostLen) :
    ∃ res, (do pure (Next.value (← Instr.makeSlice t v v)) : Sem Next).run C.P w = res ∧
      Done C g own B H w a n L d (setDst d (.v (.ms H.next k.toNat 0 k.toNat)) env) (H.new (.arr false sz (List.replicate k.toNat z))) res := by
  unfold mksOK at ht
  split at ht
  · rename_i e hu
    simp only [Bool.and_eq_true] at ht
    obtain ⟨hz, hb⟩ := ht
    obtain ⟨i, zv, hi, hsz, hpos, hzl, hiz, hzr⟩ := zeroTy_is hz g
    rw [hi] at hb
    simp only [decide_eq_true_eq] at hb
    cases hv
    have hm : (mostLen : Int) = 1073741824 := rfl
    have hbytes : (i.bytes : Int) * k ≤ 281474976710656 := by
      have h1 : (i.bytes : Int) * k ≤ 65536 * 1073741824 := Int.mul_le_mul (by omega) (by omega) h0 (by omega)
      omega
    have hrun := run_make (P := C.P) w t e i zv hu hi hiz kd kd k k h0 (Int.le_refl _) hbytes (by omega)
    refine ⟨_, rfl, ?_⟩
    simp only [Sem.run_bind, hrun, Result.andThen_ok, Sem.run_pure]
    have hcz := VR.cells hzr (.inl (by intro e; rw [e] at hzl; simp at hzl; omega))
    have hcs : zv.cells.size = sz := by have := hcz.len; simp at this; omega
    have hrow := zero_row hcz (by omega) k.toNat
    rw [hcs] at hrow
    have hall : ∀ x ∈ List.replicate k.toNat z, x.cells.length = sz := fun x hx => by rw [(List.mem_replicate.1 hx).2]; exact hzl
    have hmade : madeCells zv.cells (k.toNat * i.size) = (Array.range (k.toNat * sz)).map (zv.cells[· % sz]!) := by
      rw [hsz]
      simp [madeCells, hcs]
    rw [hmade]
    have hsize : ((Array.range (k.toNat * sz)).map (zv.cells[· % sz]!)).size = k.toNat * sz := by simp
    obtain ⟨g', hchg, hvr⟩ := done_arr (sz := sz) (cap := k.toNat) hS (New.alloc w (.cells ((Array.range (k.toNat * sz)).map (zv.cells[· % sz]!)) e)) (cell_new w _ e) (frozen_new w _ e) hpos hall (by simp) (by
      rw [List.take_of_length_le (by simp)]; exact hrow) hsize
    simp only [List.length_replicate] at hvr
    exact done_of_chg hS hF hd hchg hvr
  · simp at ht

/-- elements written over some that are there -/
theorem write_in (hS : St C g own B H w) {id sz : Nat} {nl : Bool} (h0 : 0 < sz) {xs : List AV} (hg : H.get id = some (.arr nl sz xs)) (hro : H.ro ≤ id) {lo len : Nat} (hfit : lo + len ≤ xs.length) {v : Value}
    (hv : VR C g (.ms id xs.length lo len) v) {ys : List AV} (hys : ∀ y ∈ ys, y.cells.length = sz) (hyl : ys.length ≤ len) {news : List Value} (hn : CR C g (flat ys) news) :
    (len = 0 ∧ (∃ ad cap, v = .slice ad 0 cap) ∧ H.put id (some (.arr nl sz (splice xs ys lo))) = H) ∨
    ∃ ad cap w', v = .slice (some ad) len cap ∧ (storeCells ad news).run C.P w = .ok () w' ∧ ∃ g', Chg C g own B H w g' own (H.put id (some (.arr nl sz (splice xs ys lo)))) w' id := by
  have hnl := hn.len
  rw [flat_len hys] at hnl
  have hone : ∀ u ∈ news, u.oneCell' = true := fun u hu => by
    obtain ⟨j, hj, rfl⟩ := List.mem_iff_getElem.1 hu
    have hj' : j < (flat ys).length := by rw [hn.len]; exact hj
    exact (hn.rel j _ _ (List.getElem?_eq_getElem hj') (List.getElem?_eq_getElem hj)).oneCell (hn.one _ (List.getElem_mem hj'))
  obtain ⟨⟨ph, h1, h2, h3⟩, hvers⟩ := hS.arr _ _ _ _ hg
  have hsame : ys = [] → H.put id (some (.arr nl sz (splice xs ys lo))) = H := fun e => by
    subst e
    have : splice xs [] lo = xs := by simp [splice]
    rw [this]; exact Heap.put_same hg
  rcases ms_inv hv with ⟨sz', hl, rfl, rfl, rfl, hpar⟩ | ⟨b, o, cap, sz', ad, rfl, hpar, hlc, ha⟩
  · have : ys = [] := by simpa using hyl
    exact .inl ⟨rfl, ⟨_, _, rfl⟩, hsame this⟩
  · by_cases hl0 : len = 0
    · subst hl0
      have : ys = [] := by simpa using hyl
      exact .inl ⟨rfl, ⟨_, _, rfl⟩, hsame this⟩
    · rw [hpar] at h1; simp at h1; subst h1
      simp only at h2 h3
      subst h2
      obtain ⟨k1, k2, k3, k4, k5⟩ := h3
      obtain ⟨rfl, _⟩ := k1
      obtain rfl : ad = ⟨b, o + lo * sz', none⟩ := ha.2.resolve_left (by omega)
      by_cases hy0 : ys = []
      · have hn0 : news = [] := by rw [hy0] at hnl; simpa using hnl.symm
        subst hn0
        refine .inr ⟨_, _, w, rfl, by simp [storeCells], g, ?_⟩
        rw [hsame hy0]
        refine ⟨.refl _, fun _ _ _ _ => ⟨rfl, rfl, rfl⟩, fun _ _ _ _ _ hm => hm, fun b o v h => hS.imm b o v h, fun _ _ => rfl, fun _ => rfl, fun _ _ _ => rfl, fun _ _ => rfl, fun bl hb => ?_, rfl, Nat.le_refl _, get_lt hS hg, hro, fun b o => ?_, fun b o h => hS.base b o h, .refl _ _⟩
        · rw [hg] at hb; simp only [Option.some.injEq] at hb; subst hb
          exact hS.arr _ _ _ _ hg
        · exact hS.ext b o
      have hy1 : 0 < ys.length := List.length_pos_iff.2 hy0
      have hcell : ∀ k, k < news.length → ∃ u, w.cell? ⟨b, o + lo * sz' + k, none⟩ = some u ∧ w.frozen? ⟨b, o + lo * sz' + k, none⟩ = false := fun k hk => by
        have h1 : (lo + ys.length) * sz' ≤ cap * sz' := Nat.mul_le_mul_right _ (by omega)
        rw [Nat.add_mul] at h1
        obtain ⟨_, u, m2, m3, _⟩ := k4 (lo * sz' + k) (by omega)
        rw [← Nat.add_assoc] at m2 m3
        exact ⟨u, m2, m3⟩
      have hst := run_storeCells_cells (P := C.P) b (o + lo * sz') news 0 w (fun j hj => by obtain ⟨u, h, _⟩ := hcell j hj; simp only [Nat.add_zero]; rw [h]; rfl) (fun j hj => by obtain ⟨u, _, h⟩ := hcell j hj; exact h) hone
      simp only [Nat.add_zero] at hst
      have hW := Wr.mk' (w := w) (b := b) (o := o + lo * sz') (vs := news) (fun k hk => by obtain ⟨u, h, _⟩ := hcell k hk; rw [h]; rfl)
      obtain ⟨g', hchg, hv'⟩ := chg_inplace hS h0 hg hpar (s := lo) (by omega) (by omega) hro hys hn hy1 hW
      exact .inr ⟨_, _, _, rfl, hst, g', hchg⟩

theorem mkm_done (hS : St C g own B H w) (hF : Fr C g own w env a.tmps n L) {d : Option Nat} (hd : dstOK n L d) {t e : TypeId} (ht : C.P.underlying t = some (.slice e)) {sz m : Nat} {z : AV} (hz : zeroTy C.P e sz z = true) (hm : m * sz ≤ 2 ^ 24)
    {xs : List (Nat × Operand)} {ys : List (Nat × Opd)} (hp : partsMOK C xs ys = true) {qs : List (Nat × AV)} (hq : allParts env ys = some qs) {rs : List AV} (hr : mklAV (List.replicate m z) qs = some rs) :
    ∃ r, (do pure (Next.value (← Instr.buildSlice t m (xs.toArray.map fun (i, x) => (i, a.eval x)))) : Sem Next).run C.P w = r ∧ Done C g own B H w a n L d (setDst d (.v (.ms H.next rs.length 0 rs.length)) env) (H.new (.arr false sz rs)) r := by
  obtain ⟨i, v, hi, hsz, h0, hzl, hiz, hv⟩ := zeroTy_is hz g
  have hcz := VR.cells hv (.inl (by intro e; rw [e] at hzl; simp at hzl; omega))
  have hcs : v.cells.size = sz := by have := hcz.len; simp at this; omega
  have hrow := zero_row hcz (by omega) m
  rw [hcs] at hrow
  obtain ⟨h1, h2, cs, h3, h4⟩ := mkl_fill h0 (partsM_rel hF hp hq) (fun x hx => by rw [(List.mem_replicate.1 hx).2]; exact hzl) hrow hr
  have h2' : rs.length = m := by simpa using h2
  refine ⟨_, rfl, ?_⟩
  have hrun : (Instr.buildSlice t m (xs.toArray.map fun (i, x) => (i, a.eval x))).run C.P w = .ok (.slice (some ⟨w.heap.size, 0, none⟩) m m) (w.alloc (.cells cs e)) := by
    have hpl : (xs.toArray.map fun (i, x) => (i, a.eval x)).toList = xs.map fun (i, x) => (i, a.eval x) := by simp
    generalize (xs.toArray.map fun (i, x) => (i, a.eval x)) = pa at hpl
    have hlim : ¬ (16777216 < m * sz) := by omega
    by_cases hm0 : m * sz = 0
    · have hrz : ∀ f : Nat → Value, (Array.range (m * sz)).map f = #[] := fun f => by rw [hm0]; simp [Array.range_zero']
      rw [hrz] at h3
      simp only [Instr.buildSlice, Sem.run_bind, run_underlying ht, Go.sizeOf, typeInfo, run_program, Result.andThen_ok, hi, Sem.run_pure, hsz]
      simp [hm0, hpl, Array.range_zero', h3, newRow]
    · simp only [Instr.buildSlice, Sem.run_bind, run_underlying ht, Go.sizeOf, typeInfo, run_program, Result.andThen_ok, hi, Sem.run_pure, hsz]
      simp [hlim, hm0, hpl, zeroValue, typeInfo, hi, hiz, newRow]
      rw [hcs]
      have h3' : Instr.fill (fun i => some (i * sz, sz)) (Array.map (fun x => v.cells[x % sz]!) (Array.range (m * sz))) (List.map (fun x => (x.fst, a.eval x.snd)) xs) = some cs := h3
      rw [h3']
      simp
  simp only [Sem.run_bind, hrun, Result.andThen_ok, Sem.run_pure]
  have hlen := h4.len
  rw [flat_len h1] at hlen
  simp at hlen
  obtain ⟨g', hchg, hvr⟩ := done_arr (sz := sz) (cap := m) (xs := rs) hS (New.alloc w (.cells cs e)) (cell_new w _ e) (frozen_new w _ e) h0 h1 (by omega) (by
    rw [List.take_of_length_le (by simp; omega)]; exact h4) (by rw [← h2']; omega)
  rw [h2'] at hvr ⊢
  exact done_of_chg hS hF hd hchg hvr

def clrOK (P : Program) (t : TypeId) (sz : Nat) (z : AV) : Bool :=
  match P.underlying t with
  | some (.slice e) => zeroTy P e sz z
  | _ => false

theorem clr_done (hS : St C g own B H w) (hF : Fr C g own w env a.tmps n L) {d : Option Nat} (hd : dstOK n L d) {t ty : TypeId} {sz : Nat} {z : AV} (ht : clrOK C.P t sz z = true) {id ver lo len : Nat} {nl : Bool} {xs : List AV} {v : Value}
    (hv : VR C g (.ms id ver lo len) v) (hg : H.get id = some (.arr nl sz xs)) (hro : H.ro ≤ id) (hver : xs.length = ver) (hfit : lo + len ≤ ver) :
    ∃ res, (do pure (Next.value (← Builtin.clear_ #[t] ty #[v])) : Sem Next).run C.P w = res ∧
      Done C g own B H w a n L d (setDst d (.v (.tup [])) env) (H.put id (some (.arr nl sz (xs.take lo ++ List.replicate len z ++ xs.drop (lo + len))))) res := by
  unfold clrOK at ht
  split at ht
  · rename_i e hu
    obtain ⟨i, zv, hi, hsz, hpos, hzl, hiz, hzr⟩ := zeroTy_is ht g
    have hcz := VR.cells hzr (.inl (by intro e; rw [e] at hzl; simp at hzl; omega))
    have hcs : zv.cells.size = sz := by have := hcz.len; simp at this; omega
    have hrow := zero_row hcz (by omega) len
    have hall : ∀ x ∈ List.replicate len z, x.cells.length = sz := fun x hx => by rw [(List.mem_replicate.1 hx).2]; exact hzl
    subst hver
    have hsp : splice xs (List.replicate len z) lo = xs.take lo ++ List.replicate len z ++ xs.drop (lo + len) := by simp [splice]
    have htup : ∀ g', VR C g' (.tup []) (.tuple #[]) := fun g' => .tup [] #[] rfl (fun i x y h => by simp at h)
    refine ⟨_, rfl, ?_⟩
    rcases write_in hS hpos hg hro hfit hv hall (by simp) hrow with ⟨rfl, ⟨ad, cap, rfl⟩, hsame⟩ | ⟨ad, cap, w', rfl, hst, g', hchg⟩
    · rw [hsp] at hsame
      rw [hsame]
      have hrun : (Builtin.clear_ #[t] ty #[.slice ad 0 cap]).run C.P w = .ok (.tuple #[]) w := by
        cases ad <;> simp [Builtin.clear_, run_underlying hu]
      simp only [Sem.run_bind, hrun, Result.andThen_ok, Sem.run_pure]
      exact done_pure hS hF hd rfl (x := .v (.tup [])) (htup _) rfl
    · rw [hsp] at hchg
      have hrun : (Builtin.clear_ #[t] ty #[.slice (some ad) len cap]).run C.P w = .ok (.tuple #[]) w' := by
        have hz : (zeroValue e).run C.P w = .ok zv w := by simp [zeroValue, typeInfo, hi, hiz]
        have hst' : (storeCells ad (Builtin.zeroCells zv.cells len).toList).run C.P w = .ok () w' := hst
        by_cases hl0 : len = 0
        · subst hl0
          have : Builtin.zeroCells zv.cells 0 = #[] := by simp [Builtin.zeroCells, Array.range_zero']
          rw [this] at hst'
          simp [storeCells] at hst'
          subst hst'
          simp [Builtin.clear_, run_underlying hu]
        · obtain ⟨k, rfl⟩ : ∃ k, len = k + 1 := ⟨len - 1, by omega⟩
          simp [Builtin.clear_, run_underlying hu, hz, hst']
      simp only [Sem.run_bind, hrun, Result.andThen_ok, Sem.run_pure]
      exact done_of_chg hS hF hd hchg (htup _)
  · cases ht

def apzOK (P : Program) (t tx : TypeId) (sz : Nat) (z : AV) : Bool :=
  match P.underlying t, P.underlying tx with
  | some (.slice e), some (.int _) => zeroTy P e sz z && (match P.info? e with | some i => decide (i.bytes ≤ 65536) | none => false)
  | _, _ => false

theorem apz_done (hS : St C g own B H w) (hF : Fr C g own w env a.tmps n L) {d : Option Nat} (hd : dstOK n L d) {t tx ty : TypeId} {sz : Nat} {z : AV} (ht : apzOK C.P t tx sz z = true) {p : AV} {vp vq : Value} (hp : VR C g p vp) (hpn : p = .list true []) {k : Int} (hq : VR C g (.int .i64 k) vq)
    (h1 : 1 ≤ k) (hk : k ≤ mostLen) :
    ∃ res, (do pure (Next.value (← Builtin.append_ #[t, tx] ty #[vp, vq])) : Sem Next).run C.P w = res ∧
      Done C g own B H w a n L d (setDst d (.v (.ms H.next k.toNat 0 k.toNat)) env) (H.new (.arr false sz (List.replicate k.toNat z))) res := by
  subst hpn
  unfold apzOK at ht
  split at ht
  · rename_i e kd hu hx
    simp only [Bool.and_eq_true] at ht
    obtain ⟨hz, hb⟩ := ht
    obtain ⟨i, zv, hi, hsz, hpos, hzl, hiz, hzr⟩ := zeroTy_is hz g
    rw [hi] at hb
    simp only [decide_eq_true_eq] at hb
    cases hq
    cases hp
    obtain ⟨m, rfl⟩ : ∃ m : Nat, k = m := ⟨k.toNat, by omega⟩
    have hm : (mostLen : Int) = 1073741824 := rfl
    have hw : IntKind.i64.wrap (m : Int) = m := IntWalk.i64_in _ (by omega)
    have h48 : ¬ (281474976710656 < (m : Int) * i.bytes) := by
      have h1 : (m : Int) * i.bytes ≤ 1073741824 * 65536 := Int.mul_le_mul (by omega) (by omega) (by omega) (by omega)
      omega
    have hne : ¬ m = 0 := by omega
    have h63 : ¬ (9223372036854775807 < (m : Int)) := by omega
    have hneg : ¬ ((m : Int) < 0) := by omega
    have h48' : ¬ (281474976710656 < Builtin.nextslicecap m 0 * i.bytes) := by
      have h1 := nextslicecap_le (need := m) (old := 0) (by omega)
      have : Builtin.nextslicecap m 0 * i.bytes ≤ (2 * m) * 65536 := Nat.mul_le_mul h1 hb
      omega
    have hcz := VR.cells hzr (.inl (by intro e; rw [e] at hzl; simp at hzl; omega))
    have hcs : zv.cells.size = sz := by have := hcz.len; simp at this; omega
    have hmsz : ¬ (m * i.size = 0) := by rw [hsz]; have := Nat.mul_pos (show 0 < m by omega) hpos; omega
    have hrun : (Builtin.append_ #[t, tx] ty #[.slice none 0 0, .int .i64 m]).run C.P w = .ok (.slice (some ⟨w.heap.size, 0, none⟩) m (grownCap w m 0 e))
        (w.drew.alloc (.cells (Builtin.zeroCells zv.cells m ++ Builtin.zeroCells zv.cells (grownCap w m 0 e - m)) e)) := by
      simp [Builtin.append_, run_underlying hu, run_underlying hx, Go.sizeOf, typeInfo, zeroValue, hi, hiz, hne, h63, h48, h48', hneg, hw, asInt, asIntOf, hmsz, Question.forced, newRow, grownCap, run_firstCells_none]
    refine ⟨_, rfl, ?_⟩
    simp only [Sem.run_bind, hrun, Result.andThen_ok, Sem.run_pure]
    have hrow : CR C g (flat (List.replicate m z)) (Builtin.zeroCells zv.cells m).toList := zero_row hcz (by omega) m
    have hall : ∀ x ∈ List.replicate m z, x.cells.length = sz := fun x hx => by rw [(List.mem_replicate.1 hx).2]; exact hzl
    have hge := le_grownCap w m 0 e
    obtain ⟨q1, q2, q3⟩ := moved_row (C := C) (g := g) (xs := []) (ys := List.replicate m z) (sz := sz) (olds := []) (fun x hx => by simp at hx) hall ⟨rfl, fun c hc => by simp [flat] at hc, fun i x y hx => by simp [flat] at hx⟩ hrow hcs (nc := grownCap w m 0 e) (by simpa using hge)
    simp only [List.nil_append, List.length_nil, List.length_replicate, Nat.zero_add] at q1 q2 q3
    have hzc : (([] : List Value).toArray ++ (Builtin.zeroCells zv.cells m).toList.toArray ++ Builtin.zeroCells zv.cells (grownCap w m 0 e - m)) = Builtin.zeroCells zv.cells m ++ Builtin.zeroCells zv.cells (grownCap w m 0 e - m) := by simp
    obtain ⟨g', hchg, hvr⟩ := done_arr (sz := sz) (cap := grownCap w m 0 e) (xs := List.replicate m z) hS (New.drew_alloc w (.cells (Builtin.zeroCells zv.cells m ++ Builtin.zeroCells zv.cells (grownCap w m 0 e - m)) e)) (cell_drew_new w _ e) (frozen_drew_new w _ e) hpos hall (by simpa using hge)
      (by rw [List.length_replicate, ← hzc]; exact q2) (by rw [← hzc]; exact q3)
    simp only [List.length_replicate] at hvr
    simp only [Int.toNat_natCast]
    exact done_of_chg hS hF hd hchg hvr
  · simp at ht

/-- a slot's own value turned, the model's memory as it was -/
theorem Fr.same {g' : Gh} {own' : Own} {tmps : Array Value} (hF : Fr C g' own' w env tmps n L) {s : Nat} {x y : AV} (hs : env.get s = .v x) (hy : VR C g' y (tmOf tmps s)) : Fr C g' own' w ((s, .v y) :: env) tmps n L := by
  have hget : ∀ q, Env.get ((s, Sl.v y) :: env) q = if q = s then .v y else env.get q := fun q => rfl
  refine ⟨hF.size, fun q => ?_, fun q cs hq => ?_, hF.gl⟩
  · simp only [SlotOK, hget]
    by_cases hqs : q = s
    · subst hqs; rw [if_pos rfl]; exact hy
    · rw [if_neg hqs]
      have h := hF.slots q
      simp only [SlotOK] at h
      cases he : env.get q with
      | no => trivial
      | un => rw [he] at h; exact h
      | v z => rw [he] at h; exact h
      | lv cs => rw [he] at h; exact h
      | lp s' off =>
        rw [he] at h
        obtain ⟨cs, b, o, k1, k2, k3⟩ := h
        have hne : s' ≠ s := fun e => by rw [e, hs] at k1; cases k1
        exact ⟨cs, b, o, (if_neg hne).trans k1, k2, k3⟩
  · rw [hget] at hq
    by_cases hqs : q = s
    · rw [if_pos hqs] at hq; cases hq
    · rw [if_neg hqs] at hq; exact hF.lvs q cs hq

/-- what a step does that the model does not see -/
def Still (C : Cx) (g : Gh) (own : Own) (B : Nat) (H : Heap) (w : World) (tmps : Array Value) (n : Nat) (L : List Nat) (e' : Env) (H' : Heap) : Prop :=
  ∃ g' own', Ext g own B H w g' own' H' w ∧ St C g' own' B H' w ∧ Fr C g' own' w e' tmps n L

theorem thaw_still (hS : St C g own B H w) (hF : Fr C g own w env a.tmps n L) {s sz : Nat} (hs : env.get s = .v (.list true [])) :
    Still C g own B H w a.tmps n L ((s, .v (.ms H.next 0 0 0)) :: env) (H.new (.arr true sz [])) := by
  obtain ⟨g', hchg, hv⟩ := chg_nil hS sz
  refine ⟨g', own, hchg.toExt, hchg.st hS, (hchg.fr hF).same hs ?_⟩
  have h := hF.slots s
  simp only [SlotOK, hs] at h
  generalize tmOf a.tmps s = v at h ⊢
  cases h
  exact hv

theorem frz_core (hS : St C g own B H w) {id lo len : Nat} (hro : H.ro ≤ id) {nl : Bool} {sz : Nat} {xs : List AV} (hg : H.get id = some (.arr nl sz xs))
    (hle : lo + len ≤ xs.length) : ∃ g' own', Chg C g own B H w g' own' (H.put id none) w id ∧ ∀ v, VR C g (.ms id xs.length lo len) v → VR C g' (.list nl ((xs.drop lo).take len)) v := by
  have hlt := get_lt hS hg
  obtain ⟨⟨ph, h1, h2, h3⟩, hvers⟩ := hS.arr _ _ _ _ hg
  obtain ⟨base, cap, sz'⟩ := ph
  cases base with
  | none =>
    simp only at h2 h3
    obtain ⟨k1, rfl, _⟩ := h3
    subst k1
    obtain rfl : lo = 0 := by simp at hle; omega
    obtain rfl : len = 0 := by simpa using hle
    have hchg : Chg C g own B H w g own (H.put id none) w id := chg_wr (vs := []) (b := B) (o := 0) hS ⟨fun j v h => by simp at h, fun _ _ _ => rfl, fun _ => rfl, rfl, fun _ _ => .refl _ _, fun _ _ _ h => h⟩ (fun j hj => by simp at hj) hlt hro (.refl g) rfl rfl (fun _ _ _ => rfl) (fun bl h => by cases h) (.refl _ _)
    refine ⟨g, own, hchg, fun v h => ?_⟩
    rcases ms_inv h with ⟨_, _, _, _, rfl, _⟩ | ⟨b, o, cap, sz', ad, hv, hpar, hlc, ha⟩
    · simpa using VR.nil
    · rw [hpar] at h1; simp at h1
  | some bo =>
    obtain ⟨b, o⟩ := bo
    simp only at h2 h3
    subst h2
    obtain ⟨k1, k2, k3, k4, k5⟩ := h3
    obtain ⟨rfl, hspos⟩ := k1
    let inn : Nat → Nat → Prop := fun b' o' => b' = b ∧ o ≤ o' ∧ o' < o + xs.length * sz'
    have hdec : ∀ b' o', Decidable (inn b' o') := fun b' o' => inferInstanceAs (Decidable (_ ∧ _ ∧ _))
    let g' : Gh := { g with G := fun b' o' => if inn b' o' then w.cell? ⟨b', o', none⟩ else g.G b' o' }
    let own' : Own := fun b' o' => if inn b' o' then .imm else own b' o'
    have hin : ∀ b' o', inn b' o' → own b' o' = .heap id := fun b' o' ⟨e1, e2, e3⟩ => by
      subst e1
      have hmul : xs.length * sz' ≤ cap * sz' := Nat.mul_le_mul_right _ k2
      have := (k4 (o' - o) (by omega)).1
      rwa [show o + (o' - o) = o' by omega] at this
    have hle' : g.Le g' := ⟨fun b' o' v hh => by
      simp only [g']
      by_cases hi : inn b' o'
      · have := hin _ _ hi
        rw [(hS.imm _ _ _ hh).1] at this
        cases this
      · rw [if_neg hi]; exact hh, fun _ _ h => h, fun _ _ _ h => h⟩
    have hchg : Chg C g own B H w g' own' (H.put id none) w id := by
      refine ⟨hle', fun b' o' p1 p2 => ?_, fun _ _ _ _ _ hm => hm, fun b' o' v hh => ?_, fun _ _ => rfl, fun _ => rfl, fun _ _ _ => rfl, fun i hi => by simp [Heap.put, hi], fun bl hb => ?_, rfl, Nat.le_refl _, hlt, hro, fun b' o' => ?_, fun b' o' => ?_, .refl _ _⟩
      · refine ⟨?_, rfl, rfl⟩
        simp only [own']
        rw [if_neg (fun hi => p2 (hin _ _ hi))]
      · simp only [g', own'] at hh ⊢
        by_cases hi : inn b' o'
        · rw [if_pos hi] at hh ⊢; exact ⟨rfl, hh⟩
        · rw [if_neg hi] at hh ⊢; exact hS.imm _ _ _ hh
      · simp [Heap.put] at hb
      · simp only [own']
        by_cases hi : inn b' o'
        · exact .inr (hS.lt (o := o') (by rw [hin _ _ hi]; simp))
        · rw [if_neg hi]; exact hS.ext b' o'
      · simp only [own']
        by_cases hi : inn b' o'
        · intro _; exact hS.base b' o' ⟨id, .inl (hin _ _ hi)⟩
        · rw [if_neg hi]; exact hS.base b' o'
    refine ⟨g', own', hchg, fun v h => ?_⟩
    rcases ms_inv h with ⟨_, hl, _, _, hv, hpar⟩ | ⟨b1, o1, cap1, sz1, ad, rfl, hpar, hlc, ha⟩
    · rw [hl] at h1; rw [hpar] at h1; simp at h1
    rw [hpar] at h1
    simp only [Option.some.injEq, Ph.mk.injEq, Prod.mk.injEq] at h1
    obtain ⟨⟨e1, e2⟩, e3, e4⟩ := h1
    obtain rfl := e1.symm
    obtain rfl := e2.symm
    obtain rfl := e3.symm
    obtain rfl := e4.symm
    have hlen : ((xs.drop lo).take len).length = len := by simp; omega
    have hget : ∀ (i : Nat) (x : AV), ((xs.drop lo).take len)[i]? = some x → xs[lo + i]? = some x ∧ i < len := by
      intro i x hx
      have hi : i < len := by
        have := (List.getElem?_eq_some_iff.1 hx).1
        omega
      rw [List.getElem?_take, if_pos hi, List.getElem?_drop] at hx
      exact ⟨hx, hi⟩
    by_cases hl0 : len = 0
    · subst hl0
      have hnil : (xs.drop lo).take 0 = [] := by simp
      rw [hnil]
      obtain ⟨ab, ao, as⟩ := ad
      obtain rfl : as = none := ha.1
      exact .list [] ab ao (cap - lo) 0 (fun _ _ => undef) (by simp) (fun i x hx => by simp at hx) (fun i x hx => by simp at hx) (fun i j hi => by simp at hi) (fun i j x y hx => by simp at hx)
    · obtain rfl : ad = ⟨b, o + lo * sz', none⟩ := ha.2.resolve_left (by omega)
      have key := VR.list (C := C) (g := g') ((xs.drop lo).take len) b (o + lo * sz') (cap - lo) sz' (fun i j => (w.cell? ⟨b, o + lo * sz' + i * sz' + j, none⟩).getD undef) (by omega)
        (fun i x hx => k3 _ _ (hget i x hx).1) (fun i x hx e => by have := (k3 _ _ (hget i x hx).1).1; rw [e] at this; simp at this; omega) (fun i j hi hj => by
          rw [hlen] at hi
          have hx := List.getElem?_eq_getElem (show lo + i < xs.length by omega)
          have hjl : j < (xs[lo + i]).cells.length := by rw [(k3 _ _ hx).1]; exact hj
          obtain ⟨u, p1, _⟩ := k5 (lo + i) _ j _ hx (List.getElem?_eq_getElem hjl)
          rw [show o + (lo + i) * sz' + j = o + lo * sz' + i * sz' + j by rw [Nat.add_mul]; omega] at p1
          have hinn : inn b (o + lo * sz' + i * sz' + j) := by
            have h1 := idx_lt (i := lo + i) (n := xs.length) (c := xs.length) (by omega) (Nat.le_refl _) hj
            rw [Nat.add_mul] at h1
            exact ⟨rfl, by omega, by omega⟩
          simp only [g']
          rw [if_pos hinn, p1]
          rfl) (fun i j x y hx hy => by
          obtain ⟨hx', hi⟩ := hget i x hx
          obtain ⟨u, p1, p2⟩ := k5 (lo + i) x j y hx' hy
          rw [show o + (lo + i) * sz' + j = o + lo * sz' + i * sz' + j by rw [Nat.add_mul]; omega] at p1
          simp only [p1, Option.getD_some]
          exact p2.mono hle')
      rwa [hlen] at key

/-- the state goes on, the memory as it was -/
structure Mv (C : Cx) (B : Nat) (w : World) (g : Gh) (own : Own) (H : Heap) (g' : Gh) (own' : Own) (H' : Heap) : Prop where
  ext : Ext g own B H w g' own' H' w
  st : St C g' own' B H' w
  fr : ∀ {env : Env} {tmps : Array Value} {n : Nat} {L : List Nat}, Fr C g own w env tmps n L → Fr C g' own' w env tmps n L

theorem Mv.refl (hS : St C g own B H w) : Mv C B w g own H g own H := ⟨.refl _ _ _ _ _, hS, fun h => h⟩
theorem Mv.trans {g1 g2 : Gh} {own1 own2 : Own} {H1 H2 : Heap} (h : Mv C B w g own H g1 own1 H1) (k : Mv C B w g1 own1 H1 g2 own2 H2) : Mv C B w g own H g2 own2 H2 := ⟨h.ext.trans k.ext, k.st, fun f => k.fr (h.fr f)⟩

/-- one value for another one, of the same places in memory -/
structure FzR (C : Cx) (g g' : Gh) (x x' : AV) : Prop where
  len : x'.cells.length = x.cells.length
  one : (∀ c ∈ x.cells, c.one = true) → ∀ c ∈ x'.cells, c.one = true
  cell : ∀ (j : Nat) (y y' : AV), x.cells[j]? = some y → x'.cells[j]? = some y' → ∀ v, VR C g y v → VR C g' y' v
  val : ∀ v, VR C g x v → VR C g' x' v

theorem FzR.refl {g g' : Gh} (h : g.Le g') (x : AV) : FzR C g g' x x := ⟨rfl, fun h => h, fun j y y' h1 h2 v hv => by rw [h1] at h2; cases h2; exact hv.mono h, fun v hv => hv.mono h⟩
theorem FzR.trans {g g1 g2 : Gh} {x y z : AV} (h : FzR C g g1 x y) (k : FzR C g1 g2 y z) : FzR C g g2 x z :=
  ⟨k.len.trans h.len, fun o => k.one (h.one o), fun j a b h1 h2 v hv => by
    have hj := (List.getElem?_eq_some_iff.1 h1).1
    have hj' : j < y.cells.length := by rw [h.len]; exact hj
    exact k.cell j _ b (List.getElem?_eq_getElem hj') h2 v (h.cell j a _ h1 (List.getElem?_eq_getElem hj') v hv), fun v hv => k.val v (h.val v hv)⟩

theorem FzR.ofOne {g g' : Gh} {x x' : AV} (h1 : x.one = true) (h2 : x'.one = true) (h : ∀ v, VR C g x v → VR C g' x' v) : FzR C g g' x x' := by
  refine ⟨by rw [AV.one_cells h1, AV.one_cells h2]; rfl, fun _ => by rw [AV.one_cells h2]; simpa using h2, fun j y y' hy hy' v hv => ?_, h⟩
  rw [AV.one_cells h1] at hy
  rw [AV.one_cells h2] at hy'
  cases j with
  | zero => simp at hy hy'; subst hy; subst hy'; exact h v hv
  | succ j => simp at hy

/-- lists of such values -/
def FzL (C : Cx) (g g' : Gh) (xs ys : List AV) : Prop := ys.length = xs.length ∧ ∀ (i : Nat) (x y : AV), xs[i]? = some x → ys[i]? = some y → FzR C g g' x y

theorem fzAll_mv {f : Heap → AV → Option (AV × Heap)} (hf : ∀ {g : Gh} {own : Own} {H : Heap} {x x' : AV} {H' : Heap}, St C g own B H w → (∃ v, VR C g x v) → f H x = some (x', H') → ∃ g' own', Mv C B w g own H g' own' H' ∧ FzR C g g' x x') :
    ∀ {xs : List AV} {g : Gh} {own : Own} {H : Heap} {ys : List AV} {H' : Heap}, St C g own B H w → (∀ x ∈ xs, ∃ v, VR C g x v) → fzAll f H xs = some (ys, H') → ∃ g' own', Mv C B w g own H g' own' H' ∧ FzL C g g' xs ys
  | [], g, own, H, ys, H', hS, _, h => by
    simp only [fzAll, Option.some.injEq, Prod.mk.injEq] at h
    obtain ⟨rfl, rfl⟩ := h
    exact ⟨g, own, .refl hS, rfl, fun i x y hx => by simp at hx⟩
  | x :: xs, g, own, H, ys, H', hS, hex, h => by
    simp only [fzAll] at h
    split at h
    · cases h
    · rename_i y H1 h1
      split at h
      · cases h
      · rename_i zs H2 h2
        simp only [Option.some.injEq, Prod.mk.injEq] at h
        obtain ⟨rfl, rfl⟩ := h
        obtain ⟨g1, own1, m1, r1⟩ := hf hS (hex x (by simp)) h1
        obtain ⟨g2, own2, m2, r2, r3⟩ := fzAll_mv hf m1.st (fun z hz => by obtain ⟨v, hv⟩ := hex z (by simp [hz]); exact ⟨v, hv.mono m1.ext.le⟩) h2
        refine ⟨g2, own2, m1.trans m2, by simp [r2], fun i a b ha hb => ?_⟩
        cases i with
        | zero => simp at ha hb; subst ha; subst hb; exact r1.trans (.refl m2.ext.le _)
        | succ i => exact (FzR.refl m1.ext.le a).trans (r3 i a b (by simpa using ha) (by simpa using hb))

theorem list_fz {g g' : Gh} (hle : g.Le g') {nl : Bool} {xs ys : List AV} (h : FzL C g g' xs ys) {v : Value} (hv : VR C g (.list nl xs) v) : VR C g' (.list nl ys) v := by
  obtain ⟨h1, h2⟩ := h
  cases hv with
  | nil => obtain rfl : ys = [] := by simpa using h1
           exact .nil
  | list _ b o cap sz f hc hsz hne hG hvv =>
    have hget : ∀ (i : Nat) (y : AV), ys[i]? = some y → ∃ x, xs[i]? = some x ∧ FzR C g g' x y := fun i y hy => by
      have hi := (List.getElem?_eq_some_iff.1 hy).1
      have hx := List.getElem?_eq_getElem (show i < xs.length by omega)
      exact ⟨_, hx, h2 i _ y hx hy⟩
    rw [← h1] at hc
    have := VR.list (C := C) (g := g') ys b o cap sz f hc (fun i y hy => by
        obtain ⟨x, hx, hr⟩ := hget i y hy
        exact ⟨hr.len.trans (hsz i x hx).1, hr.one (hsz i x hx).2⟩) (fun i y hy e => by
        obtain ⟨x, hx, hr⟩ := hget i y hy
        have hl := hr.len
        rw [e] at hl
        exact hne i x hx (List.length_eq_zero_iff.1 hl.symm)) (fun i j hi hj => hle.G _ _ _ (hG i j (by omega) hj)) (fun i j y z hy hz => by
        obtain ⟨x, hx, hr⟩ := hget i y hy
        have hj := (List.getElem?_eq_some_iff.1 hz).1
        have hj' : j < x.cells.length := by rw [← hr.len]; exact hj
        have hxj := List.getElem?_eq_getElem hj'
        exact hr.cell j _ z hxj hz _ (hvv i j x _ hx hxj))
    rwa [h1] at this

theorem list_el {g : Gh} {nl : Bool} {zs : List AV} {v : Value} (h : VR C g (.list nl zs) v) {z : AV} (hz : z ∈ zs) : ∃ u, VR C g z u := by
  obtain ⟨k, hk, rfl⟩ := List.mem_iff_getElem.1 hz
  have hzk := List.getElem?_eq_getElem hk
  cases h with
  | nil => simp at hk
  | list _ b o cap sz2 ff hc hsz hne hG hvv =>
    by_cases ho : zs[k].one = true
    · exact ⟨_, hvv k 0 _ _ hzk (by rw [AV.one_cells ho]; rfl)⟩
    · obtain ⟨cs, hcs⟩ := AV.not_one (by simpa using ho) (hne k _ hzk)
      rw [hcs] at hzk ⊢
      refine ⟨.agg ((List.range cs.length).map fun j => ff k j).toArray, .agg cs _ (by simp) (fun c hc => (hsz k _ hzk).2 c hc) (fun j y z hy hz => ?_)⟩
      have hj := (List.getElem?_eq_some_iff.1 hy).1
      simp [hj] at hz
      subst hz
      exact hvv k j _ y hzk hy

theorem fzV_mv : ∀ {f : Fz} {g : Gh} {own : Own} {H : Heap} {x x' : AV} {H' : Heap}, St C g own B H w → (∃ v, VR C g x v) → fzV f H x = some (x', H') → ∃ g' own', Mv C B w g own H g' own' H' ∧ FzR C g g' x x'
  | .no, g, own, H, x, x', H', hS, _, h => by
    simp only [fzV, Option.some.injEq, Prod.mk.injEq] at h
    obtain ⟨rfl, rfl⟩ := h
    exact ⟨g, own, .refl hS, .refl (.refl g) x⟩
  | .sl f, g, own, H, x, x', H', hS, ⟨v0, hv0⟩, h => by
    have same : fzV (.sl f) H x = some (x, H) → ∃ g' own', Mv C B w g own H g' own' H' ∧ FzR C g g' x x' := fun e => by
      rw [e] at h
      simp only [Option.some.injEq, Prod.mk.injEq] at h
      obtain ⟨rfl, rfl⟩ := h
      exact ⟨g, own, .refl hS, .refl (.refl g) x⟩
    cases x
    case ms id ver lo len =>
      simp only [fzV] at h
      split at h
      · cases h
      rename_i hro
      split at h
      · rename_i nl sz xs hg
        split at h
        · rename_i hc
          obtain ⟨rfl, hle⟩ := hc
          obtain ⟨g1, own1, hchg, hv1⟩ := frz_core (len := len) (lo := lo) hS (by omega) hg hle
          have m1 : Mv C B w g own H g1 own1 (H.put id none) := ⟨hchg.toExt, hchg.st hS, fun hF => hchg.fr hF⟩
          have fin : ∀ {g2 own2 ys}, Mv C B w g1 own1 (H.put id none) g2 own2 H' → FzL C g1 g2 ((xs.drop lo).take len) ys → x' = .list nl ys → ∃ g' own', Mv C B w g own H g' own' H' ∧ FzR C g g' (.ms id xs.length lo len) x' := fun {g2 own2 ys} m2 r e => by
            subst e
            exact ⟨g2, own2, m1.trans m2, .ofOne rfl rfl fun v hv => list_fz m2.ext.le r (hv1 v hv)⟩
          have deep : ∀ {o}, o = fzAll (fzV f) (H.put id none) ((xs.drop lo).take len) → (match o with | some (ys, H') => some (AV.list nl ys, H') | none => none) = some (x', H') → ∃ g' own', Mv C B w g own H g' own' H' ∧ FzR C g g' (.ms id xs.length lo len) x' := fun {o} ho h => by
            split at h
            · rename_i ys H2
              simp only [Option.some.injEq, Prod.mk.injEq] at h
              obtain ⟨rfl, rfl⟩ := h
              have hl := hv1 v0 hv0
              obtain ⟨g2, own2, m2, r⟩ := fzAll_mv (f := fzV f) (fun hS hx hh => fzV_mv hS hx hh) m1.st (fun z hz => list_el hl hz) ho.symm
              exact fin m2 r rfl
            · cases h
          cases f
          case no =>
            simp only [Option.some.injEq, Prod.mk.injEq] at h
            obtain ⟨rfl, rfl⟩ := h
            exact fin (.refl m1.st) ⟨rfl, fun i x y hx hy => by rw [hx] at hy; cases hy; exact .refl (.refl g1) x⟩ rfl
          all_goals exact deep rfl h
        · cases h
      · cases h
    case cap0 =>
      simp only [fzV, Option.some.injEq, Prod.mk.injEq] at h
      obtain ⟨rfl, rfl⟩ := h
      refine ⟨g, own, .refl hS, .ofOne rfl rfl fun v hv => ?_⟩
      cases hv with
      | cap0 ad hsp =>
        obtain ⟨ab, ao, as⟩ := ad
        obtain rfl : as = none := hsp
        exact .list [] ab ao 0 0 (fun _ _ => undef) (by simp) (fun i x hx => by simp at hx) (fun i x hx => by simp at hx) (fun i j hi => by simp at hi) (fun i j x y hx => by simp at hx)
    all_goals exact same rfl
  | .ag i f r, g, own, H, x, x', H', hS, ⟨v0, hv0⟩, h => by
    cases x
    case agg cs =>
      simp only [fzV] at h
      split at h
      · cases h
      rename_i c hc
      split at h
      · cases h
      rename_i c' H1 h1
      split at h
      · rename_i hone
        simp only [Bool.and_eq_true] at hone
        cases hv0 with
        | agg _ ws hl ho hvv =>
          have hi := (List.getElem?_eq_some_iff.1 hc).1
          obtain ⟨g1, own1, m1, r1⟩ := fzV_mv hS ⟨ws[i]'(by omega), hvv i c _ hc (by simp [show i < ws.size by omega])⟩ h1
          have key : FzR C g g1 (.agg cs) (.agg (cs.set i c')) := by
            have hcell : ∀ (j : Nat) (y y' : AV), cs[j]? = some y → (cs.set i c')[j]? = some y' → ∀ v, VR C g y v → VR C g1 y' v := fun j y y' hy hy' v hv => by
              by_cases hij : i = j
              · subst hij
                rw [hc] at hy; cases hy
                simp [hi] at hy'
                subst hy'
                exact r1.val v hv
              · rw [List.getElem?_set_ne hij, hy] at hy'
                cases hy'
                exact hv.mono m1.ext.le
            have hones : (∀ c ∈ cs, c.one = true) → ∀ d ∈ cs.set i c', d.one = true := fun ho d hd => by
              rcases List.mem_or_eq_of_mem_set hd with hd | rfl
              · exact ho d hd
              · exact hone.2
            refine ⟨by simp [AV.cells], hones, hcell, fun v hv => ?_⟩
            cases hv with
            | agg _ ws' hl' ho' hvv' =>
              exact .agg _ _ (by simpa using hl') (hones ho') (fun j y z hy hz => by
                have hj := (List.getElem?_eq_some_iff.1 hy).1
                simp at hj
                exact hcell j _ y (List.getElem?_eq_getElem hj) hy z (hvv' j _ z (List.getElem?_eq_getElem hj) hz))
          obtain ⟨g2, own2, m2, r2⟩ := fzV_mv m1.st ⟨.agg ws, key.val _ (.agg _ ws hl ho hvv)⟩ h
          exact ⟨g2, own2, m1.trans m2, key.trans r2⟩
      · cases h
    all_goals cases h

theorem frz_slot (hS : St C g own B H w) (hF : Fr C g own w env a.tmps n L) {s : Nat} {x y : AV} (hs : env.get s = .v x) {f : Fz} {H' : Heap} (h : fzV f H x = some (y, H')) : Still C g own B H w a.tmps n L ((s, .v y) :: env) H' := by
  have hx := hF.slots s
  simp only [SlotOK, hs] at hx
  obtain ⟨g', own', m, r⟩ := fzV_mv hS ⟨_, hx⟩ h
  exact ⟨g', own', m.ext, m.st, (m.fr hF).same hs (r.val _ hx)⟩

theorem frz_lv (hS : St C g own B H w) (hF : Fr C g own w env a.tmps n L) {s : Nat} {cs ds : List AV} (hs : env.get s = .lv cs) {f : Fz} {H' : Heap} (h : fzV f H (.agg cs) = some (.agg ds, H')) : Still C g own B H w a.tmps n L ((s, .lv ds) :: env) H' := by
  have hx := hF.slots s
  simp only [SlotOK, hs] at hx
  obtain ⟨b, o, h1, h2, h3⟩ := hx
  have hvs : ∃ vs : List Value, vs.length = cs.length ∧ ∀ j v, vs[j]? = some v → w.cell? ⟨b, o + j, none⟩ = some v ∧ ∀ y, cs[j]? = some y → VR C g y v :=
    gather_cells (w := w) (b := b) (o := o) (m := cs.length) (p := fun k v => ∀ y, cs[k]? = some y → VR C g y v) (fun k hk => by
      obtain ⟨_, v, k2, _, k4⟩ := h3 k _ (List.getElem?_eq_getElem hk)
      exact ⟨v, k2, fun y hy => by rw [List.getElem?_eq_getElem hk] at hy; cases hy; exact k4⟩)
  obtain ⟨vs, hl, hv⟩ := hvs
  obtain ⟨g', own', m, r⟩ := fzV_mv hS ⟨.agg vs.toArray, .agg cs _ (by simp [hl]) h2 (fun i x y hx hy => (hv i y (by simpa using hy)).2 x hx)⟩ h
  refine ⟨g', own', m.ext, m.st, ?_⟩
  have hF' := m.fr hF
  -- what the cells hold, as the new state knows it
  have hx' := hF'.slots s
  simp only [SlotOK, hs] at hx'
  have hget : ∀ q, Env.get ((s, Sl.lv ds) :: env) q = if q = s then .lv ds else env.get q := fun q => rfl
  have hlen : ds.length = cs.length := r.len
  refine ⟨hF'.size, fun q => ?_, fun q cs' hq => ?_, hF'.gl⟩
  · simp only [SlotOK, hget]
    by_cases hqs : q = s
    · subst hqs
      rw [if_pos rfl]
      obtain ⟨b', o', p1, p2, p3⟩ := hx'
      rw [h1] at p1
      simp only [Value.pointer.injEq, Option.some.injEq, Addr.mk.injEq, and_true] at p1
      obtain ⟨rfl, rfl⟩ := p1
      refine ⟨b, o, h1, r.one h2, fun j y' hj' => ?_⟩
      have hj := (List.getElem?_eq_some_iff.1 hj').1
      have hcs := List.getElem?_eq_getElem (show j < cs.length by omega)
      obtain ⟨k1, v, k2, k3, _⟩ := p3 j _ hcs
      obtain ⟨_, v0, q2, _, q4⟩ := h3 j _ hcs
      rw [k2] at q2; cases q2
      exact ⟨k1, v, k2, k3, r.cell j _ y' hcs hj' v q4⟩
    · rw [if_neg hqs]
      have h := hF'.slots q
      simp only [SlotOK] at h
      cases he : env.get q with
      | no => trivial
      | un => rw [he] at h; exact h
      | v z => rw [he] at h; exact h
      | lv cs => rw [he] at h; exact h
      | lp s' off =>
        rw [he] at h
        obtain ⟨cs', b, o, k1, k2, k3⟩ := h
        by_cases hss : s' = s
        · subst hss
          exact ⟨ds, b, o, if_pos rfl, k2, k3⟩
        · exact ⟨cs', b, o, (if_neg hss).trans k1, k2, k3⟩
  · rw [hget] at hq
    by_cases hqs : q = s
    · subst hqs; exact hF'.lvs q cs hs
    · rw [if_neg hqs] at hq; exact hF'.lvs q cs' hq
end
end Ey
