/- One operation, calls among them: the model's and ours. -/
import Derived.Test.YtjcnpcdcpfbpdaaGreatDoorEyCv
import Derived.Test.YtjcnpcdcpfbpdaaGreatDoorEyMap
namespace Ey
open Go Go.RowKit

def noSlots (own : Own) : Prop := ∀ b o s, own b o ≠ .slot s

/-- what a call does: the model's ending and ours -/
def CallR (C : Cx) (g : Gh) (own : Own) (B : Nat) (H : Heap) (w : World) (r : CRes) (e : Ending) (w' : World) : Prop :=
  ∃ g' own', noSlots own' ∧ match r with
    | .ret v H' => (∃ rv, e = .returned rv ∧ VR C g' v rv) ∧ Ext g own B H w g' own' H' w' ∧ St C g' own' B H' w'
    | .pan v H' => (∃ pv, e = .panicked [{ v := pv, recovered := false }] ∧ VR C g' v pv) ∧ Ext g own B H w g' own' H' w' ∧ St C g' own' B H' w'

def CallsOK (C : Cx) (cl : Caller) : Prop := ∀ f vs H r, cl f vs H = some r → ∀ fid, C.fm f = some fid → ∀ g own B w (ws : Array Value), St C g own B H w → noSlots own → vs.length = ws.size →
  (∀ (i : Nat) (x : AV) (y : Value), vs[i]? = some x → ws[i]? = some y → VR C g x y) → Calls C.P fid ws w (CallR C g own B H w r)

/-- a function that a call may name -/
def FunsOK (C : Cx) : Prop := ∀ f fid, C.fm f = some fid → ∃ fn c, C.P.funcs[fid]? = some fn ∧ fn.body = some c ∧ fn.name ≠ "runtime.NumGoroutine"

def calleeOwn (own : Own) : Own := fun b o => match own b o with
  | .slot _ => .frgn
  | x => x
def backOwn (own own' : Own) : Own := fun b o => match own b o with
  | .slot s => .slot s
  | _ => own' b o

section
variable {C : Cx} {g : Gh} {own : Own} {B : Nat} {H : Heap} {w : World} {env : Env} {a : Act} {n : Nat} {L : List Nat}

theorem calleeOwn_eq {own : Own} {b o : Nat} {x : Owner} (h : own b o = x) (hx : ∀ s, x ≠ .slot s) : calleeOwn own b o = x := by
  unfold calleeOwn
  rw [h]
  cases x <;> first | rfl | exact absurd rfl (hx _)

theorem noSlots_callee (own : Own) : noSlots (calleeOwn own) := by
  intro b o s
  unfold calleeOwn
  cases own b o <;> simp

theorem cellsAt_own {own own' : Own} {ow : Owner} {b o : Nat} {cs : List AV} (h : ∀ o', own b o' = ow → own' b o' = ow) (hc : CellsAt C g own w ow b o cs) : CellsAt C g own' w ow b o cs :=
  ⟨hc.1, fun j y hy => by obtain ⟨h1, h2⟩ := hc.2 j y hy; exact ⟨h _ h1, h2⟩⟩

theorem arrAt_own {own own' : Own} {id : Nat} {nl : Bool} {sz : Nat} {xs : List AV} {ph : Ph} (h : ∀ b o', own b o' = .heap id → own' b o' = .heap id) (hc : ArrAt C g own w id nl sz xs ph) : ArrAt C g own' w id nl sz xs ph := by
  obtain ⟨h1, h2⟩ := hc
  refine ⟨h1, ?_⟩
  cases hb : ph.base with
  | none => rw [hb] at h2; exact h2
  | some p =>
    obtain ⟨b, o⟩ := p
    rw [hb] at h2
    obtain ⟨k1, k2, k3, k4, k5⟩ := h2
    exact ⟨k1, k2, k3, fun k hk => ⟨h _ _ (k4 k hk).1, (k4 k hk).2⟩, k5⟩

theorem St.callee (hS : St C g own B H w) : St C g (calleeOwn own) B H w where
  imm := fun b o v h => ⟨calleeOwn_eq (hS.imm b o v h).1 (by simp), (hS.imm b o v h).2⟩
  obj := fun id cs h => by
    obtain ⟨b, o, h1, h2⟩ := hS.obj id cs h
    exact ⟨b, o, h1, cellsAt_own (fun o' ho => calleeOwn_eq ho (by simp)) h2⟩
  arr := fun id nl sz xs h => by
    obtain ⟨⟨ph, h1, h2⟩, h3⟩ := hS.arr id nl sz xs h
    exact ⟨⟨ph, h1, arrAt_own (fun b o' ho => calleeOwn_eq ho (by simp)) h2⟩, h3⟩
  mp := fun id es h => (hS.mp id es h).step (.refl g) (fun _ hb => calleeOwn_eq hb (by simp)) fun _ _ _ _ hm => hm
  next := hS.next
  ext := fun b o => by
    rcases hS.ext b o with h | h
    · exact .inl (calleeOwn_eq h (by simp))
    · exact .inr h
  base := fun b o ⟨x, hx⟩ => by
    refine hS.base b o ⟨x, ?_⟩
    unfold calleeOwn at hx
    cases ho : own b o <;> simp [ho] at hx ⊢
    exact hx
  size := hS.size
  ro := hS.ro
  gl := hS.gl

variable {g' : Gh} {own' : Own} {H' : Heap} {w' : World}

theorem back_frgn (hE : Ext g (calleeOwn own) B H w g' own' H' w') {b o s : Nat} (h : own b o = .slot s) :
    own' b o = .frgn ∧ w'.cell? ⟨b, o, none⟩ = w.cell? ⟨b, o, none⟩ ∧ w'.frozen? ⟨b, o, none⟩ = w.frozen? ⟨b, o, none⟩ :=
  hE.fr b o (by unfold calleeOwn; rw [h])

theorem back_eq (hE : Ext g (calleeOwn own) B H w g' own' H' w') {b o : Nat} {x : Owner} (h : own' b o = x) (hx : x ≠ .frgn) : backOwn own own' b o = x := by
  unfold backOwn
  cases ho : own b o with
  | slot s => have := (back_frgn hE ho).1; rw [h] at this; exact absurd this hx
  | free => exact h
  | imm => exact h
  | frgn => exact h
  | heap id => exact h

theorem St.back (hS : St C g own B H w) (hE : Ext g (calleeOwn own) B H w g' own' H' w') (hS' : St C g' own' B H' w') : St C g' (backOwn own own') B H' w' where
  imm := fun b o v h => ⟨back_eq hE (hS'.imm b o v h).1 (by simp), (hS'.imm b o v h).2⟩
  obj := fun id cs h => by
    obtain ⟨b, o, h1, h2⟩ := hS'.obj id cs h
    exact ⟨b, o, h1, cellsAt_own (fun o' ho => back_eq hE ho (by simp)) h2⟩
  arr := fun id nl sz xs h => by
    obtain ⟨⟨ph, h1, h2⟩, h3⟩ := hS'.arr id nl sz xs h
    exact ⟨⟨ph, h1, arrAt_own (fun b o' ho => back_eq hE ho (by simp)) h2⟩, h3⟩
  mp := fun id es h => (hS'.mp id es h).step (.refl g') (fun _ hb => back_eq hE hb (by simp)) fun _ _ _ _ hm => hm
  next := hS'.next
  ext := fun b o => by
    unfold backOwn
    cases ho : own b o with
    | slot s =>
      have h1 := hS.lt (o := o) (b := b) (by rw [ho]; simp)
      have h2 := hE.below.size
      exact .inr (by omega)
    | free => exact hS'.ext b o
    | imm => exact hS'.ext b o
    | frgn => exact hS'.ext b o
    | heap id => exact hS'.ext b o
  base := fun b o ⟨x, hx⟩ => by
    unfold backOwn at hx
    cases ho : own b o with
    | slot s => exact hS.base b o ⟨s, .inr ho⟩
    | free => rw [ho] at hx; exact hS'.base b o ⟨x, hx⟩
    | imm => rw [ho] at hx; exact hS'.base b o ⟨x, hx⟩
    | frgn => rw [ho] at hx; exact hS'.base b o ⟨x, hx⟩
    | heap id => rw [ho] at hx; exact hS'.base b o ⟨x, hx⟩
  size := hS'.size
  ro := hS'.ro
  gl := hS'.gl

theorem Ext.back (hE : Ext g (calleeOwn own) B H w g' own' H' w') : Ext g own B H w g' (backOwn own own') H' w' where
  le := hE.le
  ob := hE.ob
  ar := hE.ar
  get := hE.get
  ro := hE.ro
  next := hE.next
  fr := fun b o h => by
    obtain ⟨h1, h2, h3⟩ := hE.fr b o (calleeOwn_eq h (by simp))
    refine ⟨?_, h2, h3⟩
    unfold backOwn
    rw [h]
    exact h1
  below := hE.below

theorem Fr.back {tmps : Array Value} (hF : Fr C g own w env tmps n L) (hE : Ext g (calleeOwn own) B H w g' own' H' w') : Fr C g' (backOwn own own') w' env tmps n L where
  size := hF.size
  lvs := hF.lvs
  gl := fun b o v h => hE.le.G b o v (hF.gl b o v h)
  slots := fun s => by
    have k := hF.slots s
    simp only [SlotOK] at k ⊢
    cases he : env.get s with
    | no => trivial
    | un => rw [he] at k; exact k
    | v x => rw [he] at k; exact k.mono hE.le
    | lv cs =>
      rw [he] at k
      obtain ⟨b, o, h1, h2⟩ := k
      refine ⟨b, o, h1, h2.1, fun j y hy => ?_⟩
      obtain ⟨m1, v, m2, m3, m4⟩ := h2.2 j y hy
      obtain ⟨_, p2, p3⟩ := back_frgn hE m1
      exact ⟨by unfold backOwn; rw [m1], v, by rw [p2]; exact m2, by rw [p3]; exact m3, m4.mono hE.le⟩
    | lp s' off => rw [he] at k; exact k

end

def dstOKb (n : Nat) (L : List Nat) : Option Nat → Bool
  | none => true
  | some d => decide (d < n) && !L.contains d

theorem dstOKb_is {n : Nat} {L : List Nat} {d : Option Nat} (h : dstOKb n L d = true) : dstOK n L d := by
  cases d with
  | none => trivial
  | some d =>
    simp only [dstOKb, Bool.and_eq_true, decide_eq_true_eq, Bool.not_eq_true'] at h
    exact ⟨h.1, by simpa using h.2⟩

def zeroCellsOK (P : Program) (t : TypeId) (cs : List AV) : Bool :=
  match P.info? t with
  | some i => match i.zero with
    | some v => cvCells v.cells.toList cs
    | none => false
  | none => false

theorem zeroCells_run {C : Cx} {t : TypeId} {cs : List AV} (h : zeroCellsOK C.P t cs = true) (g : Gh) : ∃ v, (∀ w, (zeroValue t).run C.P w = .ok v w) ∧ CR C g cs v.cells.toList := by
  unfold zeroCellsOK at h
  split at h
  · rename_i i hi
    split at h
    · rename_i v hv
      exact ⟨v, fun w => by simp [zeroValue, typeInfo, hi, hv], cvCells_rel h⟩
    · simp at h
  · simp at h

def sizeIs (P : Program) (t : TypeId) (sz : Nat) : Bool :=
  match P.info? t with
  | some i => i.size == sz && decide (0 < sz)
  | none => false

theorem sizeIs_run {P : Program} {t : TypeId} {sz : Nat} (h : sizeIs P t sz = true) (w : World) : (Go.sizeOf t).run P w = .ok sz w ∧ 0 < sz := by
  unfold sizeIs at h
  split at h
  · rename_i i hi
    simp only [Bool.and_eq_true, beq_iff_eq, decide_eq_true_eq] at h
    exact ⟨by simp [Go.sizeOf, typeInfo, hi, h.1], h.2⟩
  · simp at h

def sizeNone (P : Program) (t : TypeId) : Bool :=
  match P.info? t with
  | some i => i.size == 0
  | none => false

theorem sizeNone_run {P : Program} {t : TypeId} (h : sizeNone P t = true) (w : World) : (Go.sizeOf t).run P w = .ok 0 w := by
  unfold sizeNone at h
  split at h
  · rename_i i hi
    simp only [beq_iff_eq] at h
    simp [Go.sizeOf, typeInfo, hi, h]
  · simp at h

/-- a map's type, of keys of so many numbers; what it answers where there is nothing -/
def mapLookOK (P : Program) (n : Nat) (t : TypeId) (z : AV) : Bool :=
  match P.underlying t with
  | some (.map k e) => keyTyOK P n k && zeroOK P e z
  | _ => false

/-- the model's operation and one of ours, where memory changes or a call is made -/
def chkSt (C : Cx) (n : Nat) (L : List Nat) (op : Op) (dst : Option Nat) (aop : AOp) : Bool :=
  match op, aop with
  | .alloc t, .alv cs => zeroCellsOK C.P t cs && (match dst with | some d => decide (d < n) && L.contains d | none => false)
  | .box _ x, .blv sz y => opdOK C x y && decide (0 < sz) && (match dst with | some d => decide (d < n) && L.contains d | none => false)
  | .box _ x, .bim sz y => dstOKb n L dst && opdOK C x y && decide (0 < sz)
  | .alloc t, .aob cs => dstOKb n L dst && zeroCellsOK C.P t cs
  | .box _ x, .bob sz y => dstOKb n L dst && opdOK C x y && decide (0 < sz)
  | .buildSlice t m ps, .mkl z k qs => dstOKb n L dst && m == k && partsMOK C ps.toList qs && (match C.P.underlying t with
      | some (.slice e) => zeroTy C.P e z.cells.length z && decide (m * z.cells.length ≤ 2 ^ 24)
      | _ => false)
  | .store t x v, .st sz x' v' => dst == none && sizeIs C.P t sz && opdOK C x x' && opdOK C v v'
  | .store t x v, .sto sz x' v' => dst == none && sizeIs C.P t sz && opdOK C x x' && opdOK C v v'
  | .makeSlice t l c, .mks sz z y => dstOKb n L dst && mksOK C.P t sz z && opdOK C l y && opdOK C c y
  | .call c, .app sz b x => dstOKb n L dst && (match asBuiltin c with
      | some (.append, [s, y], [t, tx]) => appOK C.P t tx sz && opdOK C s b && opdOK C y x
      | _ => false)
  | .call c, .call f ys => dstOKb n L dst && (match c.callee with
      | .value (.func fid) => C.fm f == some fid && opdsOK C c.args.toList ys
      | _ => false)
  | .call c, .callc f ys _ => dstOKb n L dst && (match c.callee with
      | .value (.func fid) => C.fm f == some fid && opdsOK C c.args.toList ys
      | _ => false)
  | .call c, .callv x ys => dstOKb n L dst && (match c.callee with
      | .value y => opdOK C y x && opdsOK C c.args.toList ys
      | _ => false)
  | .panic x, .pan y => opdOK C x y
  | .buildSlice t m ps, .mkm z k qs => dstOKb n L dst && m == k && partsMOK C ps.toList qs && (match C.P.underlying t with
      | some (.slice e) => zeroTy C.P e z.cells.length z && decide (m * z.cells.length ≤ 2 ^ 24)
      | _ => false)
  | .call c, .clr sz z x => dstOKb n L dst && (match asBuiltin c with
      | some (.clear, [y], [t]) => clrOK C.P t sz z && opdOK C y x
      | _ => false)
  | .call c, .apz sz z b x => dstOKb n L dst && (match asBuiltin c with
      | some (.append, [s, y], [t, tx]) => apzOK C.P t tx sz z && opdOK C s b && opdOK C y x
      | _ => false)
  | .store t x v, .st0 x' v' => dst == none && sizeNone C.P t && opdOK C x x' && opdOK C v v'
  | .convert s t x, .cvb y => dstOKb n L dst && bytesTy C.P s && strTy C.P t && opdOK C x y
  | .convert s t x, .cvs y => dstOKb n L dst && strTy C.P s && bytesTy C.P t && opdOK C x y
  | .store t x v, .sts sz x' v' => dst == none && sizeIs C.P t sz && opdOK C x x' && opdOK C v v'
  | .makeMap _ none, .mkmp => dstOKb n L dst
  | .lookup t x k ok, .mpl m z ok' x' k' => dstOKb n L dst && ok == ok' && opdOK C x x' && opdOK C k k' && mapLookOK C.P m t z
  | .mapUpdate t x k v, .mpu m x' k' v' => dst == none && opdOK C x x' && opdOK C k k' && opdOK C v v' && mapTyOK C.P m t
  | _, aop => dstOKb n L dst && chkPure C op aop.base

end Ey
