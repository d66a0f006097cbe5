/- What the commands' functions answer: by hand. -/
import Derived.Test.YtmjbahmjgajmiaaGreatDoorScX
import Derived.Test.YtmjbahmjgajmiaaGreatDoorEyB3
import Derived.Test.YtmjbahmjgajmiaaGreatDoorScScr
set_option maxRecDepth 100000
namespace Ey.Sc
open Go (IntKind)
variable {Φ : Nat → Option AFn}

theorem one_ok (h : Φ 186 = some a186) (k : Int) (H : Heap) : evC Φ 186 [.int .i64 k] H = some (.ret (.bool (decide (1 ≤ k) && decide (k ≤ 7))) H) := by
  rw [evC_eq h rfl]
  simp [a186, evX_seq, evX_ops, evX_ret, opsS, wantedS, opS, opv, Env.av, Env.sl, Env.get, setDst, initEnv, bodyH, binAV, cmpI]
  by_cases h1 : 1 ≤ k <;> simp [h1, finS, resOf, resS, Env.get, AV.under]
theorem two_ok (h : Φ 188 = some a188) (k : Int) (H : Heap) : evC Φ 188 [.int .i64 k] H = some (.ret (.bool ((decide (1 ≤ k) && decide (k ≤ 3)) || decide (k = 7))) H) := by
  rw [evC_eq h rfl]
  simp [a188, evX_seq, evX_ops, evX_ret, opsS, wantedS, opS, opv, Env.av, Env.sl, Env.get, setDst, initEnv, bodyH, binAV, cmpI]
  by_cases h1 : 1 ≤ k <;> by_cases h2 : k ≤ 3 <;> by_cases h3 : k = 7 <;> simp [h1, h2, h3, finS, resOf, resS, Env.get, AV.under] <;> omega

/-- is it nil? -/
def isNil (f : Option Bool) : Bool := match f with
  | some true => true
  | _ => false
theorem clone_ok (h : Φ 183 = some a183) (f : Option Bool) (l : List UInt8) (hf : Fo f (l.map byt)) (hl : l.length ≤ mostLen) (H : Heap) : evC Φ 183 [lv f (l.map byt)] H = some (.ret (.list (isNil f) (l.map byt)) H) := by
  rw [evC_eq h rfl]
  by_cases hn : f = some true
  · subst hn
    have := hf (by simp)
    rw [this]
    simp [a183, evX_seq, evX_ops, evX_ret, evX_cond, opsS, wantedS, opS, opv, Env.av, Env.sl, Env.get, setDst, initEnv, bodyH, eqAV, lv, fzV, finS, resOf, resS, AV.under, AV.underAll, isNil]
  · have he : eqAV .slice (lv f (l.map byt)) (.list true []) = some false := by
      cases f with
      | none => rfl
      | some b => cases b with
        | true => exact absurd rfl hn
        | false => rfl
    have hi : isNil f = false := by
      cases f with
      | none => rfl
      | some b => cases b with
        | true => exact absurd rfl hn
        | false => rfl
    have hm : mostLen = 2 ^ 30 := rfl
    simp [a183, evX_seq, evX_ops, evX_ret, evX_cond, evX_skip, opsS, wantedS, opS, opv, Env.av, Env.sl, Env.get, setDst, initEnv, bodyH, he, allParts, mklAV, Heap.new, appS, elemsOf_lv hf (byt_cells l), AV.cells, hl, fzV, finS, resOf, resS, hi, Heap.put]
    simp [take_len_map, AV.under, under_byt]

/-- the reader's bytes: the one variable of its own -/
def rd (H : Heap) (id : Nat) (f : Option Bool) (l : List UInt8) : Prop := H.ro ≤ id ∧ H.get id = some (.obj [lv f (l.map byt)])

theorem take_ok (hc : Φ 183 = some a183) (h : Φ 185 = some a185) {H : Heap} {id : Nat} {f : Option Bool} {l : List UInt8} (hr : rd H id f l) (hf : Fo f (l.map byt)) (hm : l.length ≤ mostLen) {n : Nat} (hn : n ≤ l.length) :
    evC Φ 185 [.ptr id 0, .int .i64 n] H = some (.ret (.list (isNil f) ((l.take n).map byt)) (H.put id (some (.obj [lv f ((l.drop n).map byt)])))) := by
  obtain ⟨h1, h2⟩ := hr
  have h1' : ¬ id < H.ro := by omega
  rw [evC_eq h rfl]
  have e1 := sl_hi (H := H) hf (byt_cells l) (show n ≤ (l.map byt).length by simpa using hn)
  have e2 := sl_lo (H := H) hf (byt_cells l) (show n ≤ (l.map byt).length by simpa using hn)
  have e3 := clone_ok hc f (l.take n) (by rw [List.map_take]; exact hf.take n) (by simp; omega) H
  simp only [List.map_take] at e3
  have hlt : ¬ ((l.length : Int) < (n : Int)) := by omega
  simp [a185, evX_seq, evX_ops, evX_ret, evX_cond, evX_skip, opsS, wantedS, opS, opv, Env.av, Env.sl, Env.get, setDst, initEnv, bodyH, addrS, ldS, h2, part, lenAV_lv hf, binAV, cmpI, i64, hlt, optAV, e1, e2, allAV, e3, stS, h1', putAt, lv_cells, finS, resOf, resS, put_eta]
theorem take_pan (h : Φ 185 = some a185) {H : Heap} {id : Nat} {f : Option Bool} {l : List UInt8} (hr : rd H id f l) (hf : Fo f (l.map byt)) {n : Nat} (hn : l.length < n) :
    evC Φ 185 [.ptr id 0, .int .i64 n] H = some (.pan (.iface 9 (.agg [])) H) := by
  obtain ⟨h1, h2⟩ := hr
  rw [evC_eq h rfl]
  have hlt : ((l.length : Int) < (n : Int)) := by omega
  simp [a185, evX_seq, evX_ops, evX_cond, opsS, wantedS, opS, opv, Env.av, Env.sl, Env.get, setDst, initEnv, bodyH, addrS, ldS, h2, part, lenAV_lv hf, binAV, cmpI, i64, hlt, allParts, fillAV, AV.cells, finS]

theorem list_ok (hc : Φ 183 = some a183) (ht : Φ 185 = some a185) (h : Φ 189 = some a189) {H : Heap} {id : Nat} {f : Option Bool} {k : UInt8} {l : List UInt8} (hr : rd H id f (k :: l)) (hf : Fo f ((k :: l).map byt)) (hm : (k :: l).length ≤ mostLen) (hn : k.toNat ≤ l.length) :
    evC Φ 189 [.ptr id 0] H = some (.ret (.list (isNil f) ((l.take k.toNat).map byt)) (H.put id (some (.obj [lv f ((l.drop k.toNat).map byt)])))) := by
  have e1 := take_ok hc ht hr hf hm (n := 1) (by simp)
  have hr2 : rd (H.put id (some (.obj [lv f (((k :: l).drop 1).map byt)]))) id f l := ⟨hr.1, by simp [Heap.put]⟩
  have e2 := take_ok hc ht hr2 (by simpa using hf.drop 1) (by simp at hm; omega) hn
  simp only [List.map_take, List.map_drop, List.map_cons, List.take_succ_cons, List.drop_succ_cons, List.take_zero, List.drop_zero] at e1 e2
  push_cast at e1
  simp only [put_put] at e2
  rw [evC_eq h rfl]
  have w8 : IntKind.wrap .i64 (k.toNat : Int) = k.toNat := wrap_small (by have := k.toNat_lt; omega)
  simp [a189, evX_seq, evX_ops, evX_ret, opsS, wantedS, opS, opv, Env.av, Env.sl, Env.get, setDst, initEnv, bodyH, allAV, e1, byt, ldS, part, AV.cells, w8, e2, finS, resOf, resS, put_eta]

theorem list_pan (hc : Φ 183 = some a183) (ht : Φ 185 = some a185) (h : Φ 189 = some a189) {H : Heap} {id : Nat} {f : Option Bool} {l : List UInt8} (hr : rd H id f l) (hf : Fo f (l.map byt)) (hm : l.length ≤ mostLen) (hl : Scr.lst l = none) :
    ∃ l' : List UInt8, Fo f (l'.map byt) ∧ evC Φ 189 [.ptr id 0] H = some (.pan (.iface 9 (.agg [])) (H.put id (some (.obj [lv f (l'.map byt)])))) ∧ l'.length ≤ l.length := by
  cases l with
  | nil =>
    have e1 := take_pan ht hr hf (n := 1) (by simp)
    push_cast at e1
    have hp : H.put id (some (.obj [lv f (([] : List UInt8).map byt)])) = H := by
      refine heap_ext rfl rfl fun j => ?_
      simp only [Heap.put]
      split
      · rename_i hj; rw [hj, hr.2]
      · rfl
    refine ⟨[], hf, ?_, Nat.le_refl _⟩
    rw [evC_eq h rfl, hp]
    simp [a189, evX_seq, evX_ops, opsS, wantedS, opS, opv, Env.av, Env.sl, Env.get, setDst, initEnv, bodyH, allAV, e1, finS, heap_eta]
  | cons k l =>
    have e1 := take_ok hc ht hr hf hm (n := 1) (by simp)
    have hr2 : rd (H.put id (some (.obj [lv f (((k :: l).drop 1).map byt)]))) id f l := ⟨hr.1, by simp [Heap.put]⟩
    have hn : l.length < k.toNat := by
      simp only [Scr.lst] at hl
      split at hl
      · assumption
      · cases hl
    have e2 := take_pan ht hr2 (by simpa using hf.drop 1) hn
    simp only [List.map_cons, List.take_succ_cons, List.drop_succ_cons, List.take_zero, List.drop_zero] at e1 e2
    push_cast at e1
    have w8 : IntKind.wrap .i64 (k.toNat : Int) = k.toNat := wrap_small (by have := k.toNat_lt; omega)
    refine ⟨l, by simpa using hf.drop 1, ?_, by simp⟩
    rw [evC_eq h rfl]
    simp [a189, evX_seq, evX_ops, opsS, wantedS, opS, opv, Env.av, Env.sl, Env.get, setDst, initEnv, bodyH, allAV, e1, byt, ldS, part, AV.cells, w8, e2, finS, put_eta]

theorem place_ok (hc : Φ 183 = some a183) (ht : Φ 185 = some a185) (h : Φ 187 = some a187) {H : Heap} {id : Nat} {f : Option Bool} {x y : UInt8} {l : List UInt8} (hr : rd H id f (x :: y :: l)) (hf : Fo f ((x :: y :: l).map byt)) (hm : (x :: y :: l).length ≤ mostLen) :
    evC Φ 187 [.ptr id 0] H = some (.ret (.int .i64 (Scr.i8 x * 256 + Scr.i8 y)) (H.put id (some (.obj [lv f (l.map byt)])))) := by
  have e1 := take_ok hc ht hr hf hm (n := 2) (by simp)
  simp only [List.map_cons, List.take_succ_cons, List.drop_succ_cons, List.take_zero, List.drop_zero] at e1
  push_cast at e1
  have hx := x.toNat_lt; have hy := y.toNat_lt
  have w1 : IntKind.wrap .i64 (x.toNat : Int) = x.toNat := wrap_small (by omega)
  have w2 : IntKind.wrap .i64 (y.toNat : Int) = y.toNat := wrap_small (by omega)
  have w3 : IntKind.wrap .i64 ((x.toNat : Int) * 256) = (x.toNat : Int) * 256 := by
    have := wrap_small (n := x.toNat * 256) (by omega)
    push_cast at this; exact this
  have w4 : IntKind.wrap .i64 ((x.toNat : Int) * 256 + y.toNat) = (x.toNat : Int) * 256 + y.toNat := by
    have := wrap_small (n := x.toNat * 256 + y.toNat) (by omega)
    push_cast at this; exact this
  have sh : shI .shl .i64 (x.toNat : Int) 8 = some ((x.toNat : Int) * 256) := by
    show (if (8 : Int) < 0 then none else some (IntKind.wrap .i64 ((x.toNat : Int) * 256))) = _
    rw [w3]; rfl
  have ob : arI .or .i64 ((x.toNat : Int) * 256) (y.toNat : Int) = some ((x.toNat : Int) * 256 + y.toNat) := by
    show some (IntKind.wrap .i64 ((BitVec.ofInt 64 ((x.toNat : Int) * 256) ||| BitVec.ofInt 64 (y.toNat : Int)).toNat : Int)) = _
    rw [or_bytes, w4]
  rw [evC_eq h rfl]
  simp [a187, evX_seq, evX_ops, evX_dops, evX_ret, opsS, wantedS, opS, opv, Env.av, Env.sl, Env.get, setDst, initEnv, bodyH, allAV, e1, byt, ldS, part, AV.cells, w1, w2, binAV, sh, ob, finS, resOf, resS, put_eta]
  rfl

theorem place_pan (ht : Φ 185 = some a185) (h : Φ 187 = some a187) {H : Heap} {id : Nat} {f : Option Bool} {l : List UInt8} (hr : rd H id f l) (hf : Fo f (l.map byt)) (hl : Scr.place l = none) :
    evC Φ 187 [.ptr id 0] H = some (.pan (.iface 9 (.agg [])) H) := by
  have hn : l.length < 2 := by
    match l, hl with
    | [], _ => simp
    | [_], _ => simp
  have e1 := take_pan ht hr hf (n := 2) hn
  push_cast at e1
  rw [evC_eq h rfl]
  simp [a187, evX_seq, evX_ops, opsS, wantedS, opS, opv, Env.av, Env.sl, Env.get, setDst, initEnv, bodyH, allAV, e1, finS, heap_eta]

/-- the state behind some steps of cmd: the reader's variable, the command's, the mark's -/
structure CS (H0 H : Heap) (id : Nat) (f : Option Bool) (l : List UInt8) (cs : List AV) : Prop where
  ro : H.ro = H0.ro
  lo : H0.ro ≤ id
  mid : id < H0.next
  nx : H0.next + 2 ≤ H.next
  hrd : H.get id = some (.obj [lv f (l.map byt)])
  hc : H.get H0.next = some (.obj cs)
  hi : H.get (H0.next + 1) = some (.obj [.bool false])
  fr : ∀ j, j < H0.next → j ≠ id → H.get j = H0.get j
  ron : H0.ro ≤ H0.next
  fresh : ∀ j, H.next ≤ j → H.get j = none
  fo : Fo f (l.map byt)
  most : l.length ≤ mostLen

theorem CS.rd' {H0 H : Heap} {id : Nat} {f : Option Bool} {l : List UInt8} {cs : List AV} (h : CS H0 H id f l cs) : rd H id f l := ⟨h.ro ▸ h.lo, h.hrd⟩
theorem CS.put {H0 H : Heap} {id : Nat} {f : Option Bool} {l : List UInt8} {cs : List AV} (h : CS H0 H id f l cs) {l' : List UInt8} (hf : Fo f (l'.map byt)) (hl : l'.length ≤ l.length) : CS H0 (H.put id (some (.obj [lv f (l'.map byt)]))) id f l' cs := by
  have := h.mid; have := h.nx; have := h.most
  exact ⟨h.ro, h.lo, h.mid, h.nx, put_get _ _ _, (put_ne _ _ (by omega)).trans h.hc, (put_ne _ _ (by omega)).trans h.hi, fun j hj hn => (put_ne _ _ hn).trans (h.fr j hj hn), h.ron, fun j hj => (put_ne _ _ (by simp only [put_next] at hj; omega)).trans (h.fresh j hj), hf, by omega⟩
theorem CS.putc {H0 H : Heap} {id : Nat} {f : Option Bool} {l : List UInt8} {cs : List AV} (h : CS H0 H id f l cs) (cs' : List AV) : CS H0 (H.put H0.next (some (.obj cs'))) id f l cs' := by
  have := h.mid; have := h.nx
  exact ⟨h.ro, h.lo, h.mid, h.nx, (put_ne _ _ (by omega)).trans h.hrd, put_get _ _ _, (put_ne _ _ (by omega)).trans h.hi, fun j hj hn => (put_ne _ _ (by omega)).trans (h.fr j hj hn), h.ron, fun j hj => (put_ne _ _ (by simp only [put_next] at hj; omega)).trans (h.fresh j hj), h.fo, h.most⟩

/-- the slots that last -/
structure CE (e : Env) (id c : Nat) : Prop where
  e0 : e.get 0 = .v (.ptr id 0)
  e2 : e.get 2 = .v (.ptr c 0)
  e3 : e.get 3 = .v (.ptr (c + 1) 0)

def bodyC : ACode := a190.code.R.B

theorem p1_ok (hc : Φ 183 = some a183) (ht : Φ 185 = some a185) {H0 H : Heap} {id : Nat} {f : Option Bool} {k : UInt8} {l : List UInt8} {v a b t p : AV} {e : Env} (hs : CS H0 H id f (k :: l) [v, a, b, t, p]) (he : CE e id H0.next) :
    Pst (evX Φ bodyC.L e H) (Onw fun e' H' => CE e' id H0.next ∧ CS H0 H' id f l [.int .i64 (Scr.i8 k % 10 + 1), a, b, t, p]) fun _ _ _ => False := by
  have e1 := take_ok hc ht hs.rd' hs.fo hs.most (n := 1) (by simp)
  simp only [List.map_cons, List.take_succ_cons, List.drop_succ_cons, List.take_zero, List.drop_zero] at e1
  push_cast at e1
  have h1 := hs.put (l' := l) (by simpa using hs.fo.drop 1) (by simp)
  have w8 : IntKind.wrap .i64 (k.toNat : Int) = k.toNat := wrap_small (by have := k.toNat_lt; omega)
  have w9 : IntKind.wrap .i64 ((k.toNat : Int).tmod 10 + 1) = Scr.i8 k % 10 + 1 := by
    rw [Int.tmod_eq_emod_of_nonneg (by omega)]
    have := wrap_small (n := k.toNat % 10 + 1) (by omega)
    push_cast at this; rw [this]; rfl
  have hro : ¬ H0.next < (H.put id (some (.obj [lv f (l.map byt)]))).ro := by have := hs.ron; rw [put_ro, hs.ro]; omega
  have hcg := h1.hc
  have h2 := h1.putc [.int .i64 (Scr.i8 k % 10 + 1), a, b, t, p]
  simp [bodyC, a190, ACode.R, ACode.B, ACode.L, evX_ops, opsS, wantedS, opS, opv, Env.av, Env.sl, Env.get, setDst, he.e0, he.e2, allAV, e1, byt, ldS, part, AV.cells, w8, binAV, arI, w9, addrS, stS, hro, hcg, putAt, Pst, Onw]
  exact ⟨⟨by simp [Env.get, he.e0], by simp [Env.get, he.e2], by simp [Env.get, he.e3]⟩, h2⟩

structure CE2 (e : Env) (c : Nat) : Prop where
  e2 : e.get 2 = .v (.ptr c 0)
  e3 : e.get 3 = .v (.ptr (c + 1) 0)

/-- a command that is cut off: the memory's own variables are still there -/
def Rp (H0 : Heap) (id : Nat) (f : Option Bool) : AV → Env → Heap → Prop := fun v e H => v = .iface 9 (.agg []) ∧ CE2 e H0.next ∧ ∃ (l' : List UInt8) (cs' : List AV), CS H0 H id f l' cs' ∧ cs'.length = 5

theorem put_same {H : Heap} {i : Nat} {b : Option Blk} (h : H.get i = b) : H.put i b = H := by
  refine heap_ext rfl rfl fun j => ?_
  simp only [Heap.put]
  split
  · rename_i hj; rw [hj, h]
  · rfl

theorem p2_ok (hc : Φ 183 = some a183) (ht : Φ 185 = some a185) (h1 : Φ 186 = some a186) (h2 : Φ 187 = some a187) {H0 H : Heap} {id : Nat} {f : Option Bool} {l l' : List UInt8} {k A : Int} {b t p : AV} {e : Env} (hs : CS H0 H id f l [.int .i64 k, .int .i64 0, b, t, p]) (he : CE e id H0.next) (hp : Scr.plc (Scr.one k) l = some (A, l')) :
    Pst (evX Φ bodyC.R.L e H) (Onw fun e' H' => CE e' id H0.next ∧ CS H0 H' id f l' [.int .i64 k, .int .i64 A, b, t, p]) fun _ _ _ => False := by
  have hg := hs.hc
  have hlt : H0.next < H.next := by have := hs.nx; omega
  have o1 := one_ok h1 k H
  cases ho : Scr.one k with
  | false =>
    rw [ho] at hp
    simp [Scr.plc] at hp
    obtain ⟨rfl, rfl⟩ := hp
    have o2 : (decide (1 ≤ k) && decide (k ≤ 7)) = false := ho
    rw [o2] at o1
    simp [bodyC, a190, ACode.R, ACode.B, ACode.L, evX_seq, evX_ops, evX_cond, evX_skip, opsS, wantedS, opS, opv, Env.av, Env.sl, Env.get, setDst, he.e2, allAV, o1, ldS, hg, hlt, part, addrS, Pst, Onw]
    exact ⟨⟨by simp [Env.get, he.e0], by simp [Env.get, he.e2], by simp [Env.get, he.e3]⟩, hs⟩
  | true =>
    rw [ho] at hp
    have o2 : (decide (1 ≤ k) && decide (k ≤ 7)) = true := ho
    rw [o2] at o1
    simp only [Scr.plc, if_true] at hp
    match l, hp, hs with
    | x :: y :: l, hp, hs =>
      simp only [Scr.place, Option.some.injEq, Prod.mk.injEq] at hp
      obtain ⟨rfl, rfl⟩ := hp
      have e1 := place_ok hc ht h2 hs.rd' hs.fo hs.most
      have g1 := hs.put (l' := l) (by simpa using hs.fo.drop 2) (by simp; omega)
      have hro : ¬ H0.next < (H.put id (some (.obj [lv f (l.map byt)]))).ro := by have := hs.ron; rw [put_ro, hs.ro]; omega
      have hcg := g1.hc
      have g2 := g1.putc [.int .i64 k, .int .i64 (Scr.i8 x * 256 + Scr.i8 y), b, t, p]
      simp [bodyC, a190, ACode.R, ACode.B, ACode.L, evX_seq, evX_ops, evX_cond, opsS, wantedS, opS, opv, Env.av, Env.sl, Env.get, setDst, he.e0, he.e2, allAV, o1, e1, ldS, hg, hlt, part, addrS, AV.cells, stS, hro, hcg, putAt, Pst, Onw]
      exact ⟨⟨by simp [Env.get, he.e0], by simp [Env.get, he.e2], by simp [Env.get, he.e3]⟩, g2⟩
theorem p2_pan (ht : Φ 185 = some a185) (h1 : Φ 186 = some a186) (h2 : Φ 187 = some a187) {H0 H : Heap} {id : Nat} {f : Option Bool} {l : List UInt8} {k : Int} {a b t p : AV} {e : Env} (hs : CS H0 H id f l [.int .i64 k, a, b, t, p]) (he : CE e id H0.next) (hp : Scr.plc (Scr.one k) l = none) :
    Pst (evX Φ bodyC.R.L e H) (fun _ _ _ => False) (Rp H0 id f) := by
  have hg := hs.hc
  have hlt : H0.next < H.next := by have := hs.nx; omega
  have o1 := one_ok h1 k H
  cases ho : Scr.one k with
  | false => rw [ho] at hp; simp [Scr.plc] at hp
  | true =>
    rw [ho] at hp
    have o2 : (decide (1 ≤ k) && decide (k ≤ 7)) = true := ho
    rw [o2] at o1
    simp only [Scr.plc, if_true] at hp
    have e1 := place_pan ht h2 hs.rd' hs.fo hp
    simp [bodyC, a190, ACode.R, ACode.B, ACode.L, evX_seq, evX_ops, evX_cond, opsS, wantedS, opS, opv, Env.av, Env.sl, Env.get, setDst, he.e0, he.e2, allAV, o1, e1, ldS, hg, hlt, part, addrS, Pst, Rp]
    exact ⟨⟨by simp [Env.get, he.e2], by simp [Env.get, he.e3]⟩, l, _, hs, rfl⟩
theorem p3_ok (hc : Φ 183 = some a183) (ht : Φ 185 = some a185) (h1 : Φ 188 = some a188) (h2 : Φ 187 = some a187) {H0 H : Heap} {id : Nat} {f : Option Bool} {l l' : List UInt8} {k A : Int} {a t p : AV} {e : Env} (hs : CS H0 H id f l [.int .i64 k, a, .int .i64 0, t, p]) (he : CE e id H0.next) (hp : Scr.plc (Scr.two k) l = some (A, l')) :
    Pst (evX Φ bodyC.R.R.L e H) (Onw fun e' H' => CE e' id H0.next ∧ CS H0 H' id f l' [.int .i64 k, a, .int .i64 A, t, p]) fun _ _ _ => False := by
  have hg := hs.hc
  have hlt : H0.next < H.next := by have := hs.nx; omega
  have o1 := two_ok h1 k H
  cases ho : Scr.two k with
  | false =>
    rw [ho] at hp
    simp [Scr.plc] at hp
    obtain ⟨rfl, rfl⟩ := hp
    have o2 : ((decide (1 ≤ k) && decide (k ≤ 3)) || decide (k = 7)) = false := ho
    rw [o2] at o1
    simp [bodyC, a190, ACode.R, ACode.B, ACode.L, evX_seq, evX_ops, evX_cond, evX_skip, opsS, wantedS, opS, opv, Env.av, Env.sl, Env.get, setDst, he.e2, allAV, o1, ldS, hg, hlt, part, addrS, Pst, Onw]
    exact ⟨⟨by simp [Env.get, he.e0], by simp [Env.get, he.e2], by simp [Env.get, he.e3]⟩, hs⟩
  | true =>
    rw [ho] at hp
    have o2 : ((decide (1 ≤ k) && decide (k ≤ 3)) || decide (k = 7)) = true := ho
    rw [o2] at o1
    simp only [Scr.plc, if_true] at hp
    match l, hp, hs with
    | x :: y :: l, hp, hs =>
      simp only [Scr.place, Option.some.injEq, Prod.mk.injEq] at hp
      obtain ⟨rfl, rfl⟩ := hp
      have e1 := place_ok hc ht h2 hs.rd' hs.fo hs.most
      have g1 := hs.put (l' := l) (by simpa using hs.fo.drop 2) (by simp; omega)
      have hro : ¬ H0.next < (H.put id (some (.obj [lv f (l.map byt)]))).ro := by have := hs.ron; rw [put_ro, hs.ro]; omega
      have hcg := g1.hc
      have g2 := g1.putc [.int .i64 k, a, .int .i64 (Scr.i8 x * 256 + Scr.i8 y), t, p]
      simp [bodyC, a190, ACode.R, ACode.B, ACode.L, evX_seq, evX_ops, evX_cond, opsS, wantedS, opS, opv, Env.av, Env.sl, Env.get, setDst, he.e0, he.e2, allAV, o1, e1, ldS, hg, hlt, part, addrS, AV.cells, stS, hro, hcg, putAt, Pst, Onw]
      exact ⟨⟨by simp [Env.get, he.e0], by simp [Env.get, he.e2], by simp [Env.get, he.e3]⟩, g2⟩
theorem p3_pan (ht : Φ 185 = some a185) (h1 : Φ 188 = some a188) (h2 : Φ 187 = some a187) {H0 H : Heap} {id : Nat} {f : Option Bool} {l : List UInt8} {k : Int} {a b t p : AV} {e : Env} (hs : CS H0 H id f l [.int .i64 k, a, b, t, p]) (he : CE e id H0.next) (hp : Scr.plc (Scr.two k) l = none) :
    Pst (evX Φ bodyC.R.R.L e H) (fun _ _ _ => False) (Rp H0 id f) := by
  have hg := hs.hc
  have hlt : H0.next < H.next := by have := hs.nx; omega
  have o1 := two_ok h1 k H
  cases ho : Scr.two k with
  | false => rw [ho] at hp; simp [Scr.plc] at hp
  | true =>
    rw [ho] at hp
    have o2 : ((decide (1 ≤ k) && decide (k ≤ 3)) || decide (k = 7)) = true := ho
    rw [o2] at o1
    simp only [Scr.plc, if_true] at hp
    have e1 := place_pan ht h2 hs.rd' hs.fo hp
    simp [bodyC, a190, ACode.R, ACode.B, ACode.L, evX_seq, evX_ops, evX_cond, opsS, wantedS, opS, opv, Env.av, Env.sl, Env.get, setDst, he.e0, he.e2, allAV, o1, e1, ldS, hg, hlt, part, addrS, Pst, Rp]
    exact ⟨⟨by simp [Env.get, he.e2], by simp [Env.get, he.e3]⟩, l, _, hs, rfl⟩

theorem CS.new {H0 H : Heap} {id : Nat} {f : Option Bool} {l : List UInt8} {cs : List AV} (h : CS H0 H id f l cs) (b : Blk) : CS H0 (H.new b) id f l cs := by
  have := h.mid; have := h.nx
  exact ⟨h.ro, h.lo, h.mid, by simp only [new_next]; omega, (new_old _ _ (by omega)).trans h.hrd, (new_old _ _ (by omega)).trans h.hc, (new_old _ _ (by omega)).trans h.hi, fun j hj hn => (new_old _ _ (by omega)).trans (h.fr j hj hn), h.ron, fun j hj => by
    simp only [new_next] at hj
    simp only [Heap.new]; rw [if_neg (by omega)]; exact h.fresh j (by omega), h.fo, h.most⟩
theorem CS.puta {H0 H : Heap} {id : Nat} {f : Option Bool} {l : List UInt8} {cs : List AV} (h : CS H0 H id f l cs) {q : Nat} (h1 : H0.next + 1 < q) (h2 : q < H.next) (b : Option Blk) : CS H0 (H.put q b) id f l cs := by
  have := h.mid; have := h.nx
  exact ⟨h.ro, h.lo, h.mid, h.nx, (put_ne _ _ (by omega)).trans h.hrd, (put_ne _ _ (by omega)).trans h.hc, (put_ne _ _ (by omega)).trans h.hi, fun j hj hn => (put_ne _ _ (by omega)).trans (h.fr j hj hn), h.ron, fun j hj => (put_ne _ _ (by simp only [put_next] at hj; omega)).trans (h.fresh j hj), h.fo, h.most⟩

/-- a command's pages, while it is read -/
def PV (H0 H : Heap) (p : AV) (l : List Int) : Prop := (l = [] ∧ p = .list true []) ∨ ∃ q, H0.next + 1 < q ∧ q < H.next ∧ p = .ms q l.length 0 l.length ∧ H.get q = some (.arr false 1 (ints .i64 l))

def loopC : ACode := bodyC.R.R.R.L.R.K.R.E.R.T.R.K
def roundC : ACode := loopC.P

/-- at a round's head, i pages are read -/
structure LI (H0 : Heap) (id : Nat) (f : Option Bool) (l : List UInt8) (nf : Bool) (L : List UInt8) (k : Int) (a b t : AV) (i : Nat) (e : Env) (H : Heap) : Prop where
  ce : CE2 e H0.next
  e37 : e.get 37 = .v (.list nf (L.map byt))
  e38 : e.get 38 = .v (.int .i64 L.length)
  e39 : e.get 39 = .v (.int .i64 i)
  le : i ≤ L.length
  st : ∃ p, CS H0 H id f l [.int .i64 k, a, b, t, p] ∧ PV H0 H p ((L.take i).map Scr.i8)

theorem round_end {H0 : Heap} {id : Nat} {f : Option Bool} {l : List UInt8} {nf : Bool} {L : List UInt8} {k : Int} {a b t : AV} {e : Env} {H : Heap} (h : LI H0 id f l nf L k a b t L.length e H) :
    evX Φ roundC e H = some (.go (.exit 1) ((40, .v (.bool false)) :: e) H) := by
  simp [roundC, loopC, bodyC, a190, ACode.R, ACode.B, ACode.L, ACode.K, ACode.E, ACode.T, ACode.P, evX_seq, evX_ops, evX_cond, evX_exit, opsS, wantedS, opS, opv, Env.av, Env.sl, Env.get, setDst, h.e39, h.e38, binAV, cmpI]

theorem round_on {H0 : Heap} {id : Nat} {f : Option Bool} {l : List UInt8} {nf : Bool} {L : List UInt8} {k : Int} {a b t : AV} {i : Nat} {e : Env} {H : Heap} (hL : L.length < 256) (hi : i < L.length) (h : LI H0 id f l nf L k a b t i e H) :
    Pst (evX Φ roundC e H) (Onw fun e' H' => LI H0 id f l nf L k a b t (i + 1) (keepS [2, 3, 37, 38, 39] e') H') fun _ _ _ => False := by
  obtain ⟨p, hs, hp⟩ := h.st
  have hg := hs.hc
  have hlt : H0.next < H.next := by have := hs.nx; omega
  have hll : ((i : Int) < (L.length : Int)) := by omega
  have hx : (L.map byt)[i]? = some (byt L[i]) := by rw [List.getElem?_map, List.getElem?_eq_getElem hi]; rfl
  have w1 : IntKind.wrap .i64 (L[i].toNat : Int) = L[i].toNat := wrap_small (by have := L[i].toNat_lt; omega)
  have w2 : IntKind.wrap .i64 ((i : Int) + 1) = ((i + 1 : Nat) : Int) := by have := wrap_small (n := i + 1) (by omega); push_cast at this ⊢; exact this
  have htk : (L.take (i + 1)).map Scr.i8 = (L.take i).map Scr.i8 ++ [(L[i].toNat : Int)] := by
    rw [List.take_succ_eq_append_getElem hi, List.map_append]; rfl
  have hro : ¬ H0.next < H.ro := by have := hs.ron; rw [hs.ro]; omega
  rcases hp with ⟨h0, rfl⟩ | ⟨q, hq1, hq2, rfl, hq3⟩
  · have n1 := hs.new (.arr false 1 [.int .i64 L[i].toNat])
    have hg' := n1.hc
    have n2 := n1.putc [.int .i64 k, a, b, t, .ms H.next 1 0 1]
    simp [roundC, loopC, bodyC, a190, ACode.R, ACode.B, ACode.L, ACode.K, ACode.E, ACode.T, ACode.P, evX_seq, evX_ops, evX_cond, evX_skip, evX_block, opsS, wantedS, opS, opv, Env.av, Env.sl, Env.get, setDst, h.e39, h.e38, h.e37, h.ce.e2, binAV, cmpI, hll, hx, byt, AV.cells, ldS, part, addrS, hg, hlt, w1, allParts, mklAV, appS, elemsOf, mostLen, stS, new_ro, hro, hg', putAt, arI, w2, Pst, Onw]
    refine ⟨⟨by simp [keepS, Env.get, h.ce.e2], by simp [keepS, Env.get, h.ce.e3]⟩, by simp [keepS, Env.get, h.e37], by simp [keepS, Env.get, h.e38], by simp [keepS, Env.get], by omega, _, n2, .inr ⟨H.next, ?_, ?_, ?_, ?_⟩⟩
    · have := hs.nx; omega
    · simp [put_next, new_next]
    · rw [htk, h0]; rfl
    · rw [htk, h0, put_ne _ _ (by omega), new_get]; rfl
  · obtain ⟨P, hP⟩ : ∃ P, P = ints .i64 ((L.take i).map Scr.i8) := ⟨_, rfl⟩
    have hil : P.length = i := by rw [hP]; simp [ints]; omega
    rw [← hP] at hq3
    have hil2 : ((L.take i).map Scr.i8).length = i := by simp; omega
    rw [hil2] at hs hg
    have hqr : ¬ q < H.ro := by have := hs.ron; rw [hs.ro]; omega
    have n1 := hs.puta hq1 hq2 (some (.arr false 1 (P ++ [.int .i64 L[i].toNat])))
    have hg' := n1.hc
    have n2 := n1.putc [.int .i64 k, a, b, t, .ms q (i + 1) 0 (i + 1)]
    have hmo : i ≤ 1073741823 := by omega
    simp [roundC, loopC, bodyC, a190, ACode.R, ACode.B, ACode.L, ACode.K, ACode.E, ACode.T, ACode.P, evX_seq, evX_ops, evX_cond, evX_skip, evX_block, opsS, wantedS, opS, opv, Env.av, Env.sl, Env.get, setDst, h.e39, h.e38, h.e37, h.ce.e2, binAV, cmpI, hll, hx, byt, AV.cells, ldS, part, addrS, hg, hlt, w1, allParts, mklAV, appS, elemsOf, mostLen, hqr, hq3, hil, hmo, stS, put_ro, hro, hg', putAt, arI, w2, Pst, Onw]
    refine ⟨⟨by simp [keepS, Env.get, h.ce.e2], by simp [keepS, Env.get, h.ce.e3]⟩, by simp [keepS, Env.get, h.e37], by simp [keepS, Env.get, h.e38], by simp [keepS, Env.get], by omega, _, n2, .inr ⟨q, hq1, hq2, ?_, ?_⟩⟩
    · rw [htk]; simp only [List.length_append, hil2, List.length_singleton]
    · rw [htk, put_ne _ _ (by omega), put_get, hP]; simp [ints]

theorem loop_ok {H0 : Heap} {id : Nat} {f : Option Bool} {l : List UInt8} {nf : Bool} {L : List UInt8} {k : Int} {a b t : AV} {e : Env} {H : Heap} (hL : L.length < 256) (h : LI H0 id f l nf L k a b t 0 (keepS [2, 3, 37, 38, 39] e) H) :
    Pst (evX Φ loopC e H) (fun x e' H' => x = .exit 1 ∧ CE2 e' H0.next ∧ ∃ p, CS H0 H' id f l [.int .i64 k, a, b, t, p] ∧ PV H0 H' p (L.map Scr.i8)) fun _ _ _ => False := by
  refine pst_loop (k := [2, 3, 37, 38, 39]) (a := roundC) (fun n e H => ∃ i, n = L.length - i ∧ LI H0 id f l nf L k a b t i e H) (fun n e H hi => ?_) _ e H ⟨0, rfl, h⟩
  obtain ⟨i, rfl, hi⟩ := hi
  by_cases hl : i < L.length
  · exact (round_on hL hl hi).mono (fun x e' H' hq => by
      cases x with
      | nrm => exact ⟨_, by omega, i + 1, rfl, hq⟩
      | _ => exact hq.elim) (fun _ _ _ h => h)
  · have : i = L.length := by have := hi.le; omega
    subst this
    rw [round_end hi]
    obtain ⟨p, h1, h2⟩ := hi.st
    rw [List.take_of_length_le (Nat.le_refl _)] at h2
    exact ⟨rfl, ⟨by simp [Env.get, hi.ce.e2], by simp [Env.get, hi.ce.e3]⟩, p, h1, h2⟩

/-- a command's text -/
def TV (t : AV) (x : List UInt8) : Prop := ∃ n : Bool, t = .list n (x.map byt) ∧ (n = true → x = [])

theorem nil_fo {f : Option Bool} {l : List UInt8} (hf : Fo f (l.map byt)) (h : isNil f = true) : l = [] := by
  have : f ≠ some false := fun h' => by rw [h'] at h; cases h
  simpa using hf this

theorem p4_ok (hc : Φ 183 = some a183) (ht : Φ 185 = some a185) (h3 : Φ 189 = some a189) {H0 H : Heap} {id : Nat} {f : Option Bool} {l L l' : List UInt8} {k : Int} {a b : AV} {e : Env} (hs : CS H0 H id f l [.int .i64 k, a, b, .list true [], .list true []]) (he : CE e id H0.next) (hp : Scr.lsc (Scr.lng k) l = some (L, l')) :
    Pst (evX Φ bodyC.R.R.R.L e H) (Onw fun e' H' => CE2 e' H0.next ∧ ∃ t' p', CS H0 H' id f l' [.int .i64 k, a, b, t', p'] ∧ TV t' (if k = 7 then L else []) ∧ PV H0 H' p' (if k = 9 then L.map Scr.i8 else [])) fun _ _ _ => False := by
  have hg := hs.hc
  have hlt : H0.next < H.next := by have := hs.nx; omega
  have hro : ¬ H0.next < H.ro := by have := hs.ron; rw [hs.ro]; omega
  cases hln : Scr.lng k with
  | false =>
    rw [hln] at hp
    simp [Scr.lsc] at hp
    obtain ⟨rfl, rfl⟩ := hp
    have h7 : ¬ k = 7 := fun h => by subst h; simp [Scr.lng] at hln
    have h9 : ¬ k = 9 := fun h => by subst h; simp [Scr.lng] at hln
    have h7b : (k == 7) = false := by simpa using h7
    have h9b : (k == 9) = false := by simpa using h9
    simp [bodyC, a190, ACode.R, ACode.B, ACode.L, evX_seq, evX_ops, evX_cond, evX_skip, evX_block, opsS, wantedS, opS, opv, Env.av, Env.sl, Env.get, setDst, he.e2, ldS, hg, hlt, part, addrS, binAV, cmpI, h7, h9, h7b, h9b, Pst, Onw]
    exact ⟨⟨by simp [Env.get, he.e2], by simp [Env.get, he.e3]⟩, _, _, hs, ⟨true, rfl, fun _ => rfl⟩, .inl ⟨rfl, rfl⟩⟩
  | true =>
    rw [hln] at hp
    simp only [Scr.lsc, if_true] at hp
    match l, hp, hs with
    | x :: l, hp, hs =>
    simp only [Scr.lst] at hp
    split at hp
    · cases hp
    rename_i hn
    simp only [Option.some.injEq, Prod.mk.injEq] at hp
    obtain ⟨rfl, rfl⟩ := hp
    have e1 := list_ok hc ht h3 hs.rd' hs.fo hs.most (by omega)
    have g1 := hs.put (l' := l.drop x.toNat) (by rw [List.map_drop]; have := hs.fo.drop 1; simp only [List.map_cons, List.drop_succ_cons, List.drop_zero] at this; exact this.drop _) (by simp; omega)
    simp only [List.map_take, List.map_drop] at e1
    simp only [List.map_drop] at g1
    have hro' : ¬ H0.next < (H.put id (some (.obj [lv f ((l.map byt).drop x.toNat)]))).ro := by have := hs.ron; rw [put_ro, hs.ro]; omega
    have hcg := g1.hc
    by_cases h7 : k = 7
    · subst h7
      have g2 := g1.putc [.int .i64 7, a, b, .list (isNil f) ((l.map byt).take x.toNat), .list true []]
      simp [bodyC, a190, ACode.R, ACode.B, ACode.L, evX_seq, evX_ops, evX_cond, evX_block, opsS, wantedS, opS, opv, Env.av, Env.sl, Env.get, setDst, he.e0, he.e2, allAV, ldS, hg, hlt, part, addrS, binAV, cmpI, e1, AV.cells, stS, hro', hcg, putAt, Pst, Onw]
      refine ⟨⟨by simp [Env.get, he.e2], by simp [Env.get, he.e3]⟩, _, _, g2, ⟨isNil f, by rw [List.map_take], fun h => ?_⟩, .inl ⟨rfl, rfl⟩⟩
      have := nil_fo hs.fo h
      simp at this
    · have h9 : k = 9 := by simpa [Scr.lng, h7] using hln
      subst h9
      have hk : bodyC.R.R.R.L.R = .block 0 (.seq bodyC.R.R.R.L.R.K.L (.cond (.t 29) bodyC.R.R.R.L.R.K.R.T (.seq bodyC.R.R.R.L.R.K.R.E.L (.cond (.t 34) (.seq bodyC.R.R.R.L.R.K.R.E.R.T.L (.block 1 loopC)) .skip)))) := rfl
      have hk2 : bodyC.R.R.R.L = .seq bodyC.R.R.R.L.L bodyC.R.R.R.L.R := rfl
      rw [hk2, hk]
      apply pst_seq
      simp only [bodyC, a190, ACode.R, ACode.B, ACode.L]
      simp [evX_ops, opsS, wantedS, opS, opv, Env.sl, Env.get, setDst, he.e2, ldS, hg, hlt, part, addrS, pst_go, Nx]
      apply pst_block
      apply pst_seq
      simp only [ACode.K, ACode.E, ACode.T]
      simp [evX_ops, opsS, wantedS, opS, opv, Env.av, Env.sl, Env.get, setDst, binAV, cmpI, pst_go, Nx]
      apply pst_cond (t := false) (by simp [Env.av, Env.sl, Env.get])
      simp only
      apply pst_seq
      simp [evX_ops, opsS, wantedS, opS, opv, Env.av, Env.sl, Env.get, setDst, binAV, cmpI, pst_go, Nx]
      apply pst_cond (t := true) (by simp [Env.av, Env.sl, Env.get])
      simp only
      apply pst_seq
      simp [evX_ops, opsS, wantedS, opS, opv, Env.av, Env.sl, Env.get, setDst, he.e0, allAV, e1, lenAV, pst_go, Nx]
      apply pst_block
      refine (loop_ok (H0 := H0) (id := id) (f := f) (k := 9) (a := a) (b := b) (t := .list true []) (L := l.take x.toNat) (l := l.drop x.toNat) (nf := isNil f) (by have := x.toNat_lt; simp; omega) ⟨⟨by simp [keepS, Env.get, he.e2], by simp [keepS, Env.get, he.e3]⟩, by simp [keepS, Env.get], by simp [keepS, Env.get, i64], by simp [keepS, Env.get], by omega, .list true [], g1, .inl ⟨rfl, rfl⟩⟩).mono (fun q e' H' ⟨hq, h1, p, h2, h3⟩ => ?_) (fun _ _ _ h => h)
      subst hq
      simp only [if_true]
      exact ⟨h1, _, p, h2, ⟨true, rfl, fun _ => rfl⟩, by rw [← List.map_take]; exact h3⟩

theorem p1_pan (ht : Φ 185 = some a185) {H0 H : Heap} {id : Nat} {f : Option Bool} {cs : List AV} {e : Env} (hs : CS H0 H id f [] cs) (hl : cs.length = 5) (he : CE e id H0.next) :
    Pst (evX Φ bodyC.L e H) (fun _ _ _ => False) (Rp H0 id f) := by
  have e1 := take_pan ht hs.rd' hs.fo (n := 1) (by simp)
  push_cast at e1
  simp [bodyC, a190, ACode.R, ACode.B, ACode.L, evX_ops, opsS, wantedS, opS, opv, Env.av, Env.sl, Env.get, setDst, he.e0, allAV, e1, Pst, Rp]
  exact ⟨⟨by simp [Env.get, he.e2], by simp [Env.get, he.e3]⟩, [], _, hs, hl⟩
theorem p4_pan (hc : Φ 183 = some a183) (ht : Φ 185 = some a185) (h3 : Φ 189 = some a189) {H0 H : Heap} {id : Nat} {f : Option Bool} {l : List UInt8} {k : Int} {a b t p : AV} {e : Env} (hs : CS H0 H id f l [.int .i64 k, a, b, t, p]) (he : CE e id H0.next) (hp : Scr.lsc (Scr.lng k) l = none) :
    Pst (evX Φ bodyC.R.R.R.L e H) (fun _ _ _ => False) (Rp H0 id f) := by
  have hg := hs.hc
  have hlt : H0.next < H.next := by have := hs.nx; omega
  cases hln : Scr.lng k with
  | false => rw [hln] at hp; simp [Scr.lsc] at hp
  | true =>
    rw [hln] at hp
    simp only [Scr.lsc, if_true] at hp
    obtain ⟨l', hf', e1, hl'⟩ := list_pan hc ht h3 hs.rd' hs.fo hs.most hp
    have g1 := hs.put hf' hl'
    by_cases h7 : k = 7
    · subst h7
      simp [bodyC, a190, ACode.R, ACode.B, ACode.L, evX_seq, evX_ops, evX_cond, evX_block, opsS, wantedS, opS, opv, Env.av, Env.sl, Env.get, setDst, he.e0, he.e2, allAV, ldS, hg, hlt, part, addrS, binAV, cmpI, e1, Pst, Rp]
      exact ⟨⟨by simp [Env.get, he.e2], by simp [Env.get, he.e3]⟩, l', _, g1, rfl⟩
    · have h9 : k = 9 := by simpa [Scr.lng, h7] using hln
      subst h9
      simp [bodyC, a190, ACode.R, ACode.B, ACode.L, evX_seq, evX_ops, evX_cond, evX_block, opsS, wantedS, opS, opv, Env.av, Env.sl, Env.get, setDst, he.e0, he.e2, allAV, ldS, hg, hlt, part, addrS, binAV, cmpI, e1, Pst, Rp]
      exact ⟨⟨by simp [Env.get, he.e2], by simp [Env.get, he.e3]⟩, l', _, g1, rfl⟩

/-- what is behind a call of cmd, of the memory: the reader's bytes, and what there was -/
structure Aft (H0 H : Heap) (id : Nat) (f : Option Bool) (l : List UInt8) : Prop where
  ro : H.ro = H0.ro
  nx : H0.next + 2 ≤ H.next
  hrd : H.get id = some (.obj [lv f (l.map byt)])
  fr : ∀ j, j < H0.next → j ≠ id → H.get j = H0.get j
  fresh : ∀ j, H.next ≤ j → H.get j = none
  fo : Fo f (l.map byt)

/-- a command as a value, while it is read -/
def CmdV (H0 H : Heap) (v : AV) (c : Scr.MC) : Prop := ∃ t p, v = .agg [.int .i64 c.kind, .int .i64 c.a, .int .i64 c.b, t, p] ∧ TV t c.text ∧ PV H0 H p c.pages

theorem codeCmd : a190.code = .seq a190.code.L (.dfr 6 269 [(.t 2), (.t 3)] 5 bodyC a190.code.R.Q) := rfl
theorem body_eq : bodyC = .seq bodyC.L (.seq bodyC.R.L (.seq bodyC.R.R.L (.seq bodyC.R.R.R.L bodyC.R.R.R.R))) := rfl

theorem start_cs {H0 : Heap} {id : Nat} {f : Option Bool} {l : List UInt8} (hr : rd H0 id f l) (hf : Fo f (l.map byt)) (hm : l.length ≤ mostLen) (hid : id < H0.next) (hro : H0.ro ≤ H0.next) (hfr : ∀ j, H0.next ≤ j → H0.get j = none) (cs : List AV) :
    CS H0 ((H0.new (.obj cs)).new (.obj [.bool false])) id f l cs := by
  refine ⟨rfl, hr.1, hid, Nat.le_refl _, ?_, ?_, ?_, fun j hj _ => ?_, hro, fun j hj => ?_, hf, hm⟩
  · rw [new_old _ _ (by rw [new_next]; omega), new_old _ _ hid]; exact hr.2
  · rw [new_old _ _ (by rw [new_next]; omega), new_get]
  · exact new_get (H0.new (.obj cs)) _
  · rw [new_old _ _ (by rw [new_next]; omega), new_old _ _ hj]
  · simp only [new_next] at hj
    rw [new_ne _ _ (by rw [new_next]; omega), new_ne _ _ (by omega)]; exact hfr j (by omega)

theorem cmd_ok (hc : Φ 183 = some a183) (ht : Φ 185 = some a185) (h1 : Φ 186 = some a186) (h2 : Φ 187 = some a187) (h2' : Φ 188 = some a188) (h3 : Φ 189 = some a189) (h : Φ 190 = some a190) {H0 : Heap} {id : Nat} {f : Option Bool} {l l' : List UInt8} {c : Scr.MC} (hr : rd H0 id f l) (hf : Fo f (l.map byt)) (hm : l.length ≤ mostLen) (hid : id < H0.next) (hro : H0.ro ≤ H0.next) (hfr : ∀ j, H0.next ≤ j → H0.get j = none) (hd : Scr.dec1 l = some (c, l')) :
    ∃ v H, evC Φ 190 [.ptr id 0] H0 = some (.ret (.tup [v, .bool true]) H) ∧ CmdV H0 H v c ∧ Aft H0 H id f l' := by
  have s0 := start_cs hr hf hm hid hro hfr [.int .i64 0, .int .i64 0, .int .i64 0, .list true [], .list true []]
  have hbody : Pst (evX Φ bodyC [(6, .v (.fn 269 [.ptr H0.next 0, .ptr (H0.next + 1) 0])), (3, .v (.ptr (H0.next + 1) 0)), (2, .v (.ptr H0.next 0)), (0, .v (.ptr id 0))] ((H0.new (.obj [.int .i64 0, .int .i64 0, .int .i64 0, .list true [], .list true []])).new (.obj [.bool false])))
      (fun x e H => x = .ret ∧ CE2 e H0.next ∧ ∃ t p, H.get H0.next = some (.obj [.int .i64 c.kind, .int .i64 c.a, .int .i64 c.b, t, p]) ∧ H.get (H0.next + 1) = some (.obj [.bool true]) ∧ TV t c.text ∧ PV H0 H p c.pages ∧ Aft H0 H id f l') fun _ _ _ => False := by
    cases l with
    | nil => simp [Scr.dec1] at hd
    | cons k0 r0 =>
      simp only [Scr.dec1] at hd
      split at hd
      · cases hd
      rename_i A r1 q1
      split at hd
      · cases hd
      rename_i B r2 q2
      split at hd
      · cases hd
      rename_i L r3 q3
      simp only [Option.some.injEq, Prod.mk.injEq] at hd
      obtain ⟨rfl, rfl⟩ := hd
      rw [body_eq]
      apply pst_seq
      refine (p1_ok hc ht s0 ⟨rfl, rfl, rfl⟩).mono (fun x e H hq => ?_) (fun _ _ _ h => h)
      cases x <;> try exact hq.elim
      obtain ⟨he, s1⟩ := hq
      apply pst_seq
      refine (p2_ok hc ht h1 h2 s1 he q1).mono (fun x e H hq => ?_) (fun _ _ _ h => h)
      cases x <;> try exact hq.elim
      obtain ⟨he, s2⟩ := hq
      apply pst_seq
      refine (p3_ok hc ht h2' h2 s2 he q2).mono (fun x e H hq => ?_) (fun _ _ _ h => h)
      cases x <;> try exact hq.elim
      obtain ⟨he, s3⟩ := hq
      apply pst_seq
      refine (p4_ok hc ht h3 s3 he q3).mono (fun x e H hq => ?_) (fun _ _ _ h => h)
      cases x <;> try exact hq.elim
      obtain ⟨he, t', p', s4, htv, hpv⟩ := hq
      have hg := s4.hc
      have hgi := s4.hi
      have hlt : H0.next < H.next := by have := s4.nx; omega
      have hro2 : ¬ H0.next < H.ro := by rw [s4.ro]; omega
      have hro3 : ¬ H0.next + 1 < H.ro := by rw [s4.ro]; omega
      have hps : H.put H0.next (some (.obj [.int .i64 (Scr.i8 k0 % 10 + 1), .int .i64 A, .int .i64 B, t', p'])) = H := put_same hg
      show Pst (evX Φ bodyC.R.R.R.R e H) _ _
      simp [bodyC, a190, ACode.R, ACode.B, evX_seq, evX_ops, evX_ret, opsS, wantedS, opS, opv, Env.av, Env.sl, Env.get, setDst, he.e2, he.e3, ldS, hg, hlt, part, AV.cells, stS, hro2, putAt, hps, hro3, hgi, Pst]
      refine ⟨⟨by simp [Env.get, he.e2], by simp [Env.get, he.e3]⟩, t', p', (put_ne _ _ (by omega)).trans hg, put_get _ _ _, htv, ?_, ⟨s4.ro, s4.nx, (put_ne _ _ (by omega)).trans s4.hrd, fun j hj hn => (put_ne _ _ (by omega)).trans (s4.fr j hj hn), fun j hj => (put_ne _ _ (by have := s4.nx; simp only [put_next] at hj; omega)).trans (s4.fresh j hj), s4.fo⟩⟩
      rcases hpv with hpv | ⟨q, h1, h2, h3, h4⟩
      · exact .inl hpv
      · exact .inr ⟨q, h1, h2, h3, (put_ne _ _ (by omega)).trans h4⟩
  cases hb : evX Φ bodyC [(6, .v (.fn 269 [.ptr H0.next 0, .ptr (H0.next + 1) 0])), (3, .v (.ptr (H0.next + 1) 0)), (2, .v (.ptr H0.next 0)), (0, .v (.ptr id 0))] ((H0.new (.obj [.int .i64 0, .int .i64 0, .int .i64 0, .list true [], .list true []])).new (.obj [.bool false])) with
  | none => rw [hb] at hbody; exact hbody.elim
  | some o =>
    rw [hb] at hbody
    rcases o with ⟨x, e, H⟩ | ⟨w, e, H⟩
    · obtain ⟨rfl, he, t, p, g1, g2, g3, g4, g5⟩ := hbody
      refine ⟨.agg [.int .i64 c.kind, .int .i64 c.a, .int .i64 c.b, t, p], H, ?_, ⟨t, p, rfl, g3, g4⟩, g5⟩
      have hq : (⟨H.next, H0.ro, H.get⟩ : Heap) = H := by rw [← g5.ro]
      rw [evC_eq h rfl, codeCmd]
      have hb' := hb
      simp only [bodyC] at hb'
      simp [a190, ACode.L, ACode.R, ACode.Q, evX_seq, evX_ops, evX_dfr, evX_cond, evX_skip, opsS, wantedS, opS, opv, Env.av, Env.sl, Env.get, setDst, initEnv, bodyH, allAV]
      have hb2 : evX Φ bodyC [(6, .v (.fn 269 [.ptr H0.next 0, .ptr (H0.new (.obj [.int .i64 0, .int .i64 0, .int .i64 0, .list true [], .list true []])).next 0])), (3, .v (.ptr (H0.new (.obj [.int .i64 0, .int .i64 0, .int .i64 0, .list true [], .list true []])).next 0)), (2, .v (.ptr H0.next 0)), (0, .v (.ptr id 0))] ((H0.new (.obj [.int .i64 0, .int .i64 0, .int .i64 0, .list true [], .list true []])).new (.obj [.bool false])) = _ := hb
      rw [hb2]
      simp [dfrS, backS, Env.sl, Env.get, finS, resOf, resAll, resS, he.e2, he.e3, ldS, g1, g2, part, hq]
    · exact hbody.elim

theorem cmd_no (hc : Φ 183 = some a183) (ht : Φ 185 = some a185) (h1 : Φ 186 = some a186) (h2 : Φ 187 = some a187) (h2' : Φ 188 = some a188) (h3 : Φ 189 = some a189) (h : Φ 190 = some a190) {H0 : Heap} {id : Nat} {f : Option Bool} {l : List UInt8} (hr : rd H0 id f l) (hf : Fo f (l.map byt)) (hm : l.length ≤ mostLen) (hid : id < H0.next) (hro : H0.ro ≤ H0.next) (hfr : ∀ j, H0.next ≤ j → H0.get j = none) (hd : Scr.dec1 l = none) :
    ∃ v H, evC Φ 190 [.ptr id 0] H0 = some (.ret (.tup [v, .bool false]) H) ∧ (∃ cs, v = .agg cs ∧ cs.length = 5) ∧ ∃ l', Aft H0 H id f l' := by
  have s0 := start_cs hr hf hm hid hro hfr [.int .i64 0, .int .i64 0, .int .i64 0, .list true [], .list true []]
  have hbody : Pst (evX Φ bodyC [(6, .v (.fn 269 [.ptr H0.next 0, .ptr (H0.next + 1) 0])), (3, .v (.ptr (H0.next + 1) 0)), (2, .v (.ptr H0.next 0)), (0, .v (.ptr id 0))] ((H0.new (.obj [.int .i64 0, .int .i64 0, .int .i64 0, .list true [], .list true []])).new (.obj [.bool false])))
      (fun _ _ _ => False) (Rp H0 id f) := by
    rw [body_eq]
    apply pst_seq
    cases l with
    | nil => exact (p1_pan ht s0 rfl ⟨rfl, rfl, rfl⟩).mono (fun _ _ _ h => h.elim) (fun _ _ _ h => h)
    | cons k0 r0 =>
      simp only [Scr.dec1] at hd
      refine (p1_ok hc ht s0 ⟨rfl, rfl, rfl⟩).mono (fun x e H hq => ?_) (fun _ _ _ h => h.elim)
      cases x <;> try exact hq.elim
      obtain ⟨he, s1⟩ := hq
      apply pst_seq
      split at hd
      · rename_i q1
        exact (p2_pan ht h1 h2 s1 he q1).mono (fun _ _ _ h => h.elim) (fun _ _ _ h => h)
      rename_i A r1 q1
      refine (p2_ok hc ht h1 h2 s1 he q1).mono (fun x e H hq => ?_) (fun _ _ _ h => h.elim)
      cases x <;> try exact hq.elim
      obtain ⟨he, s2⟩ := hq
      apply pst_seq
      split at hd
      · rename_i q2
        exact (p3_pan ht h2' h2 s2 he q2).mono (fun _ _ _ h => h.elim) (fun _ _ _ h => h)
      rename_i B r2 q2
      refine (p3_ok hc ht h2' h2 s2 he q2).mono (fun x e H hq => ?_) (fun _ _ _ h => h.elim)
      cases x <;> try exact hq.elim
      obtain ⟨he, s3⟩ := hq
      apply pst_seq
      split at hd
      · rename_i q3
        exact (p4_pan hc ht h3 s3 he q3).mono (fun _ _ _ h => h.elim) (fun _ _ _ h => h)
      · cases hd
  cases hb : evX Φ bodyC [(6, .v (.fn 269 [.ptr H0.next 0, .ptr (H0.next + 1) 0])), (3, .v (.ptr (H0.next + 1) 0)), (2, .v (.ptr H0.next 0)), (0, .v (.ptr id 0))] ((H0.new (.obj [.int .i64 0, .int .i64 0, .int .i64 0, .list true [], .list true []])).new (.obj [.bool false])) with
  | none => rw [hb] at hbody; exact hbody.elim
  | some o =>
    rw [hb] at hbody
    rcases o with ⟨x, e, H⟩ | ⟨w, e, H⟩
    · exact hbody.elim
    · obtain ⟨rfl, he, l', cs', s, hl⟩ := hbody
      have hg := s.hc
      have hgi := s.hi
      have hlt : H0.next < H.next := by have := s.nx; omega
      have hro2 : ¬ H0.next < H.ro := by rw [s.ro]; omega
      have hro3 : ¬ H0.next + 1 < H.ro := by rw [s.ro]; omega
      have s2 := s.putc [.int .i64 0, .int .i64 0, .int .i64 0, .list true [], .list true []]
      have hgi2 := s2.hi
      have hx1 : ((H.put H0.next (some (.obj [.int .i64 0, .int .i64 0, .int .i64 0, .list true [], .list true []]))).put (H0.next + 1) (some (.obj [.bool false]))).get H0.next = _ := (put_ne _ _ (by omega)).trans s2.hc
      have hx2 := put_get (H.put H0.next (some (.obj [.int .i64 0, .int .i64 0, .int .i64 0, .list true [], .list true []]))) (H0.next + 1) (some (.obj [.bool false]))
      have hq : (⟨((H.put H0.next (some (.obj [.int .i64 0, .int .i64 0, .int .i64 0, .list true [], .list true []]))).put (H0.next + 1) (some (.obj [.bool false]))).next, H0.ro, ((H.put H0.next (some (.obj [.int .i64 0, .int .i64 0, .int .i64 0, .list true [], .list true []]))).put (H0.next + 1) (some (.obj [.bool false]))).get⟩ : Heap) = (H.put H0.next (some (.obj [.int .i64 0, .int .i64 0, .int .i64 0, .list true [], .list true []]))).put (H0.next + 1) (some (.obj [.bool false])) := by rw [← s.ro]; rfl
      match cs', hl, s with
      | [x1, x2, x3, x4, x5], _, s =>
      refine ⟨.agg [.int .i64 0, .int .i64 0, .int .i64 0, .list true [], .list true []], (H.put H0.next (some (.obj [.int .i64 0, .int .i64 0, .int .i64 0, .list true [], .list true []]))).put (H0.next + 1) (some (.obj [.bool false])), ?_, ⟨_, rfl, rfl⟩, l', ⟨s.ro, s.nx, (put_ne _ _ (by omega)).trans s2.hrd, fun j hj hn => (put_ne _ _ (by omega)).trans (s2.fr j hj hn), fun j hj => (put_ne _ _ (by have := s.nx; simp only [put_next] at hj; omega)).trans (s2.fresh j hj), s.fo⟩⟩
      rw [evC_eq h rfl, codeCmd]
      simp [a190, ACode.L, ACode.R, ACode.Q, evX_seq, evX_ops, evX_dfr, evX_cond, evX_skip, opsS, wantedS, opS, opv, Env.av, Env.sl, Env.get, setDst, initEnv, bodyH, allAV]
      have hb2 : evX Φ bodyC [(6, .v (.fn 269 [.ptr H0.next 0, .ptr (H0.new (.obj [.int .i64 0, .int .i64 0, .int .i64 0, .list true [], .list true []])).next 0])), (3, .v (.ptr (H0.new (.obj [.int .i64 0, .int .i64 0, .int .i64 0, .list true [], .list true []])).next 0)), (2, .v (.ptr H0.next 0)), (0, .v (.ptr id 0))] ((H0.new (.obj [.int .i64 0, .int .i64 0, .int .i64 0, .list true [], .list true []])).new (.obj [.bool false])) = _ := hb
      rw [hb2]
      simp [dfrS, backS, Env.sl, Env.get, AV.cells, stS, finS, resOf, resAll, resS, he.e2, he.e3, ldS, part, allParts, fillAV, hro2, hro3, hg, hgi2, putAt, new_next, put_ro, hx1, hx2, hq]
end Ey.Sc
