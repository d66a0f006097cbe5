/- How the small language's values, heaps and slots lie in the model's memory. -/
import Derived.Test.YtjcnpcdcpfbpdaaGreatDoorEyLim
import Derived.Defers
import Derived.Recover
import Derived.Below
import Derived.Laws.IdiomCopy
import Derived.Laws.AppendOwn
import Derived.Laws.Build
namespace Ey
open Go Go.RowKit

/-- what is fixed: the program, and by which numbers it knows our functions and type tags -/
structure Cx where
  P : Program
  fm : Nat → Option FuncId
  tm : Nat → Option TypeId
  inj : ∀ t t' i, tm t = some i → tm t' = some i → t = t'
  /-- what package variables hold that are never written, cell by cell -/
  gl : Nat → Nat → Option Value := fun _ _ => none

/-- where an array lies: its base (none: a nil slice), its capacity, its elements' size -/
structure Ph where
  base : Option (Nat × Nat)
  cap : Nat
  sz : Nat

structure Gh where
  G : Nat → Nat → Option Value
  ob : Nat → Option (Nat × Nat)
  ar : Nat → Nat → Option Ph

structure Gh.Le (g g' : Gh) : Prop where
  G : ∀ b o v, g.G b o = some v → g'.G b o = some v
  ob : ∀ id p, g.ob id = some p → g'.ob id = some p
  ar : ∀ id n p, g.ar id n = some p → g'.ar id n = some p

theorem Gh.Le.refl (g : Gh) : g.Le g := ⟨fun _ _ _ h => h, fun _ _ h => h, fun _ _ _ h => h⟩
theorem Gh.Le.trans {a b c : Gh} (h : a.Le b) (k : b.Le c) : a.Le c :=
  ⟨fun _ _ _ x => k.G _ _ _ (h.G _ _ _ x), fun _ _ x => k.ob _ _ (h.ob _ _ x), fun _ _ _ x => k.ar _ _ _ (h.ar _ _ _ x)⟩

inductive VR (C : Cx) (g : Gh) : AV → Value → Prop
  | bool (b) : VR C g (.bool b) (.bool b)
  | int (k n) : VR C g (.int k n) (.int k n)
  | str (s : ByteArray) : VR C g (.str s.data.toList) (.string s)
  | flt (k b) : VR C g (.flt k b) (.float k b)
  | nil : VR C g (.list true []) (.slice none 0 0)
  | list (xs : List AV) (b o cap sz : Nat) (f : Nat → Nat → Value) (hc : xs.length ≤ cap)
      (hsz : ∀ (i : Nat) (x : AV), xs[i]? = some x → x.cells.length = sz ∧ ∀ c ∈ x.cells, c.one = true)
      (hne : ∀ (i : Nat) (x : AV), xs[i]? = some x → x.cells ≠ [])
      (hG : ∀ i j, i < xs.length → j < sz → g.G b (o + i * sz + j) = some (f i j))
      (hv : ∀ (i j : Nat) (x y : AV), xs[i]? = some x → x.cells[j]? = some y → VR C g y (f i j)) : VR C g (.list false xs) (.slice (some ⟨b, o, none⟩) xs.length cap)
  | cap0 (a : Addr) (h : a.spot = none) : VR C g .cap0 (.slice (some a) 0 0)
  | msNil (id sz : Nat) (h : g.ar id 0 = some ⟨none, 0, sz⟩) : VR C g (.ms id 0 0 0) (.slice none 0 0)
  | ms (id ver lo len b o cap sz : Nat) (a : Addr) (h : g.ar id ver = some ⟨some (b, o), cap, sz⟩) (hl : lo + len ≤ cap)
      (ha : a.spot = none ∧ (lo = cap ∨ a = ⟨b, o + lo * sz, none⟩)) : VR C g (.ms id ver lo len) (.slice (some a) len (cap - lo))
  | imm (v : AV) (b o : Nat) (f : Nat → Value) (h1 : ∀ c ∈ v.cells, c.one = true) (hne : v.cells ≠ []) (hG : ∀ j, j < v.cells.length → g.G b (o + j) = some (f j))
      (hv : ∀ (j : Nat) (y : AV), v.cells[j]? = some y → VR C g y (f j)) : VR C g (.imm v) (.pointer (some ⟨b, o, none⟩))
  | nilp : VR C g .nilp (.pointer none)
  | ptr (id off b o : Nat) (h : g.ob id = some (b, o)) : VR C g (.ptr id off) (.pointer (some ⟨b, o + off, none⟩))
  | ap (id ver i off b o cap sz : Nat) (h : g.ar id ver = some ⟨some (b, o), cap, sz⟩) : VR C g (.ap id ver i off) (.pointer (some ⟨b, o + i * sz + off, none⟩))
  | fn (f : Nat) (cap : List AV) (fid : FuncId) (vs : Array Value) (h : C.fm f = some fid) (hl : cap.length = vs.size)
      (hv : ∀ (i : Nat) (x : AV) (y : Value), cap[i]? = some x → vs[i]? = some y → VR C g x y) : VR C g (.fn f cap) (.func (.func fid) #[] vs)
  | nilfn : VR C g .nilfn .nilFunc
  | iface (t : Nat) (v : AV) (tid : TypeId) (w : Value) (h : C.tm t = some tid) (hv : VR C g v w) : VR C g (.iface t v) (.iface tid w)
  | niliface : VR C g .niliface .nilIface
  | agg (cs : List AV) (ws : Array Value) (hl : cs.length = ws.size) (h1 : ∀ c ∈ cs, c.one = true)
      (hv : ∀ (i : Nat) (x : AV) (y : Value), cs[i]? = some x → ws[i]? = some y → VR C g x y) : VR C g (.agg cs) (.agg ws)
  | tup (cs : List AV) (ws : Array Value) (hl : cs.length = ws.size)
      (hv : ∀ (i : Nat) (x : AV) (y : Value), cs[i]? = some x → ws[i]? = some y → VR C g x y) : VR C g (.tup cs) (.tuple ws)
  | nilmap : VR C g .nilmap (.map none)
  | mp (id b : Nat) (h : g.ob id = some (b, 0)) : VR C g (.mp id) (.map (some b))

theorem VR.mono {C : Cx} {g g' : Gh} (h : g.Le g') {x : AV} {v : Value} (r : VR C g x v) : VR C g' x v := by
  induction r with
  | bool b => exact .bool b
  | int k n => exact .int k n
  | str s => exact .str s
  | flt k b => exact .flt k b
  | nil => exact .nil
  | list xs b o cap sz f hc hsz hne hG _ ih => exact .list xs b o cap sz f hc hsz hne (fun i j hi hj => h.G _ _ _ (hG i j hi hj)) ih
  | cap0 a h => exact .cap0 a h
  | msNil id sz hh => exact .msNil id sz (h.ar _ _ _ hh)
  | ms id ver lo len b o cap sz a hh hl ha => exact .ms id ver lo len b o cap sz a (h.ar _ _ _ hh) hl ha
  | imm v b o f h1 hne hG _ ih => exact .imm v b o f h1 hne (fun j hj => h.G _ _ _ (hG j hj)) ih
  | nilp => exact .nilp
  | ptr id off b o hh => exact .ptr id off b o (h.ob _ _ hh)
  | ap id ver i off b o cap sz hh => exact .ap id ver i off b o cap sz (h.ar _ _ _ hh)
  | fn f cap fid vs hh hl _ ih => exact .fn f cap fid vs hh hl ih
  | nilfn => exact .nilfn
  | iface t v tid w hh _ ih => exact .iface t v tid w hh ih
  | niliface => exact .niliface
  | agg cs ws hl h1 _ ih => exact .agg cs ws hl h1 ih
  | tup cs ws hl _ ih => exact .tup cs ws hl ih
  | nilmap => exact .nilmap
  | mp id b hh => exact .mp id b (h.ob _ _ hh)

/-- what a value says of heap numbers below n alone -/
structure Gh.On (n : Nat) (g g' : Gh) : Prop where
  G : ∀ b o v, g.G b o = some v → g'.G b o = some v
  ob : ∀ id p, id < n → g.ob id = some p → g'.ob id = some p
  ar : ∀ id k p, id < n → g.ar id k = some p → g'.ar id k = some p

theorem underAll_get {n : Nat} : ∀ {xs : List AV} (_ : AV.underAll n xs = true) {i : Nat} {x : AV}, xs[i]? = some x → x.under n = true
  | [], _, i, x, hx => by simp at hx
  | v :: r, h, i, x, hx => by
    simp only [AV.underAll, Bool.and_eq_true] at h
    cases i with
    | zero => simp at hx; exact hx ▸ h.1
    | succ i => simp at hx; exact underAll_get h.2 hx

theorem under_cells {n : Nat} {x : AV} (h : x.under n = true) {j : Nat} {y : AV} (hy : x.cells[j]? = some y) : y.under n = true := by
  cases x
  case agg cs => simp only [AV.under] at h; exact underAll_get h hy
  case tup cs => simp [AV.cells] at hy
  case undef => simp [AV.cells] at hy
  all_goals
    cases j with
    | zero => simp [AV.cells] at hy; subst hy; exact h
    | succ j => simp [AV.cells] at hy

theorem VR.on {C : Cx} {n : Nat} {g g' : Gh} (h : g.On n g') {x : AV} {v : Value} (r : VR C g x v) : x.under n = true → VR C g' x v := by
  induction r with
  | bool b => exact fun _ => .bool b
  | int k n => exact fun _ => .int k n
  | str s => exact fun _ => .str s
  | flt k b => exact fun _ => .flt k b
  | nil => exact fun _ => .nil
  | list xs b o cap sz f hc hsz hne hG _ ih =>
    intro hu
    simp only [AV.under] at hu
    exact .list xs b o cap sz f hc hsz hne (fun i j hi hj => h.G _ _ _ (hG i j hi hj)) (fun i j x y hx hy => ih i j x y hx hy (under_cells (underAll_get hu hx) hy))
  | cap0 a h => exact fun _ => .cap0 a h
  | msNil id sz hh => exact fun hu => .msNil id sz (h.ar _ _ _ (by simpa [AV.under] using hu) hh)
  | ms id ver lo len b o cap sz a hh hl ha => exact fun hu => .ms id ver lo len b o cap sz a (h.ar _ _ _ (by simpa [AV.under] using hu) hh) hl ha
  | imm v b o f h1 hne hG _ ih =>
    intro hu
    simp only [AV.under] at hu
    exact .imm v b o f h1 hne (fun j hj => h.G _ _ _ (hG j hj)) (fun j y hy => ih j y hy (under_cells hu hy))
  | nilp => exact fun _ => .nilp
  | ptr id off b o hh => exact fun hu => .ptr id off b o (h.ob _ _ (by simpa [AV.under] using hu) hh)
  | ap id ver i off b o cap sz hh => exact fun hu => .ap id ver i off b o cap sz (h.ar _ _ _ (by simpa [AV.under] using hu) hh)
  | fn f cap fid vs hh hl _ ih =>
    intro hu
    simp only [AV.under] at hu
    exact .fn f cap fid vs hh hl (fun i x y hx hy => ih i x y hx hy (underAll_get hu hx))
  | nilfn => exact fun _ => .nilfn
  | iface t v tid w hh _ ih => intro hu; simp only [AV.under] at hu; exact .iface t v tid w hh (ih hu)
  | niliface => exact fun _ => .niliface
  | agg cs ws hl h1 _ ih =>
    intro hu
    simp only [AV.under] at hu
    exact .agg cs ws hl h1 (fun i x y hx hy => ih i x y hx hy (underAll_get hu hx))
  | tup cs ws hl _ ih =>
    intro hu
    simp only [AV.under] at hu
    exact .tup cs ws hl (fun i x y hx hy => ih i x y hx hy (underAll_get hu hx))
  | nilmap => exact fun _ => .nilmap
  | mp id b hh => exact fun hu => .mp id b (h.ob _ _ (by simpa [AV.under] using hu) hh)

/-- a value's cells and the model's -/
structure CR (C : Cx) (g : Gh) (cs : List AV) (ws : List Value) : Prop where
  len : cs.length = ws.length
  one : ∀ c ∈ cs, c.one = true
  rel : ∀ (i : Nat) (x : AV) (y : Value), cs[i]? = some x → ws[i]? = some y → VR C g x y

theorem VR.oneCell {C : Cx} {g : Gh} {x : AV} {v : Value} (r : VR C g x v) (h : x.one = true) : v.oneCell' = true := by
  cases r <;> first | rfl | simp [AV.one] at h

theorem VR.one_cells {C : Cx} {g : Gh} {x : AV} {v : Value} (r : VR C g x v) (h : x.one = true) : v.cells = #[v] := by
  cases r <;> first | rfl | simp [AV.one] at h

theorem AV.one_cells {x : AV} (h : x.one = true) : x.cells = [x] := by
  cases x <;> first | rfl | simp [AV.one] at h

theorem AV.not_one {x : AV} (h : x.one = false) (hc : x.cells ≠ []) : ∃ cs, x = .agg cs := by
  cases x <;> simp [AV.one, AV.cells] at h hc
  exact ⟨_, rfl⟩

theorem VR.cells {C : Cx} {g : Gh} {x : AV} {v : Value} (r : VR C g x v) (hne : x.cells ≠ [] ∨ ∃ cs, x = .agg cs) : CR C g x.cells v.cells.toList := by
  by_cases h : x.one = true
  · rw [AV.one_cells h, VR.one_cells r h]
    refine ⟨rfl, fun c hc => by simp at hc; exact hc ▸ h, fun i a b ha hb => ?_⟩
    cases i with
    | zero => simp at ha hb; exact ha ▸ hb ▸ r
    | succ i => simp at ha
  · have : ∃ cs, x = .agg cs := by
      rcases hne with hne | hne
      · exact AV.not_one (by simpa using h) hne
      · exact hne
    obtain ⟨cs, rfl⟩ := this
    cases r with
    | agg _ ws hl h1 hv => exact ⟨by simpa [AV.cells, Value.cells] using hl, h1, fun i a b ha hb => hv i a b ha (by simpa [Value.cells] using hb)⟩

/-- who owns a cell -/
inductive Owner where
  | free
  | imm
  | frgn
  | heap (id : Nat)
  | slot (s : Nat)
  deriving DecidableEq

abbrev Own := Nat → Nat → Owner

/-- a cell that may be written holds something -/
def Cell (w : World) (b o : Nat) (R : Value → Prop) : Prop := ∃ v, w.cell? ⟨b, o, none⟩ = some v ∧ w.frozen? ⟨b, o, none⟩ = false ∧ R v

/-- cells of one owner lie from a place on -/
def CellsAt (C : Cx) (g : Gh) (own : Own) (w : World) (ow : Owner) (b o : Nat) (cs : List AV) : Prop :=
  (∀ c ∈ cs, c.one = true) ∧ ∀ (j : Nat) (y : AV), cs[j]? = some y → own b (o + j) = ow ∧ Cell w b (o + j) (VR C g y)

def ArrAt (C : Cx) (g : Gh) (own : Own) (w : World) (id : Nat) (nil : Bool) (sz : Nat) (xs : List AV) (ph : Ph) : Prop :=
  ph.sz = sz ∧ match ph.base with
  | none => nil = true ∧ xs = [] ∧ ph.cap = 0
  | some (b, o) => (nil = false ∧ 0 < sz) ∧ xs.length ≤ ph.cap ∧ (∀ (i : Nat) (x : AV), xs[i]? = some x → x.cells.length = sz ∧ (∀ c ∈ x.cells, c.one = true)) ∧
      (∀ k, k < ph.cap * sz → own b (o + k) = .heap id ∧ Cell w b (o + k) fun _ => True) ∧
      ∀ (i : Nat) (x : AV) (j : Nat) (y : AV), xs[i]? = some x → x.cells[j]? = some y → ∃ v, w.cell? ⟨b, o + i * sz + j, none⟩ = some v ∧ VR C g y v

/-- a map's entries and the model's -/
def MapR (C : Cx) (g : Gh) (es : List (AV × AV)) (ms : Array MapEntry) : Prop :=
  es.length = ms.size ∧ ∀ (i : Nat) (x : AV × AV) (m : MapEntry), es[i]? = some x → ms.toList[i]? = some m → VR C g x.1 m.key ∧ VR C g x.2 m.val

/-- a map lies in a block of its own -/
def MapAt (C : Cx) (g : Gh) (own : Own) (w : World) (id : Nat) (es : List (AV × AV)) : Prop :=
  ∃ b, g.ob id = some (b, 0) ∧ own b 0 = .heap id ∧ ∃ ms clock, w.heap[b]? = some (.map ms clock) ∧ MapR C g es ms

structure St (C : Cx) (g : Gh) (own : Own) (B : Nat) (H : Heap) (w : World) : Prop where
  imm : ∀ b o v, g.G b o = some v → own b o = .imm ∧ w.cell? ⟨b, o, none⟩ = some v
  obj : ∀ id cs, H.get id = some (.obj cs) → ∃ b o, g.ob id = some (b, o) ∧ CellsAt C g own w (.heap id) b o cs
  arr : ∀ id nil sz xs, H.get id = some (.arr nil sz xs) → (∃ ph, g.ar id xs.length = some ph ∧ ArrAt C g own w id nil sz xs ph) ∧ ∀ n ph, g.ar id n = some ph → ph.sz = sz ∧ n ≤ xs.length
  mp : ∀ id es, H.get id = some (.map es) → MapAt C g own w id es
  next : ∀ id, H.next ≤ id → H.get id = none ∧ g.ob id = none ∧ ∀ n, g.ar id n = none
  ext : ∀ b o, own b o = .free ∨ b < w.heap.size
  base : ∀ b o, (∃ x, own b o = .heap x ∨ own b o = .slot x) → B ≤ b
  size : B ≤ w.heap.size
  ro : H.ro ≤ H.next
  gl : ∀ b o v, C.gl b o = some v → g.G b o = some v

def SlotOK (C : Cx) (g : Gh) (own : Own) (w : World) (env : Env) (tm : Nat → Value) (s : Nat) : Prop :=
  match env.get s with
  | .no => True
  | .un => tm s = undef
  | .v x => VR C g x (tm s)
  | .lv cs => ∃ b o, tm s = .pointer (some ⟨b, o, none⟩) ∧ CellsAt C g own w (.slot s) b o cs
  | .lp s' off => ∃ cs b o, env.get s' = .lv cs ∧ tm s' = .pointer (some ⟨b, o, none⟩) ∧ tm s = .pointer (some ⟨b, o + off, none⟩)

/-- what the model's slots hold -/
def tmOf (tmps : Array Value) (s : Nat) : Value := tmps.getD s undef

/-- what slots hold; L: those in which local variables are made -/
structure Fr (C : Cx) (g : Gh) (own : Own) (w : World) (env : Env) (tmps : Array Value) (n : Nat) (L : List Nat) : Prop where
  size : tmps.size = n
  slots : ∀ s, SlotOK C g own w env (tmOf tmps) s
  lvs : ∀ s cs, env.get s = .lv cs → s ∈ L
  gl : ∀ b o v, C.gl b o = some v → g.G b o = some v

/-- how the state may have gone on -/
structure Ext (g : Gh) (own : Own) (B : Nat) (H : Heap) (w : World) (g' : Gh) (own' : Own) (H' : Heap) (w' : World) : Prop where
  le : g.Le g'
  ob : ∀ id, id < H.next → g'.ob id = g.ob id
  ar : ∀ id, id < H.ro → ∀ n, g'.ar id n = g.ar id n
  get : ∀ id, id < H.ro → H'.get id = H.get id
  ro : H'.ro = H.ro
  next : H.next ≤ H'.next
  fr : ∀ b o, own b o = .frgn → own' b o = .frgn ∧ w'.cell? ⟨b, o, none⟩ = w.cell? ⟨b, o, none⟩ ∧ w'.frozen? ⟨b, o, none⟩ = w.frozen? ⟨b, o, none⟩
  below : Below B w w'

theorem Ext.refl (g : Gh) (own : Own) (B : Nat) (H : Heap) (w : World) : Ext g own B H w g own H w :=
  ⟨.refl g, fun _ _ => rfl, fun _ _ _ => rfl, fun _ _ => rfl, rfl, Nat.le_refl _, fun _ _ h => ⟨h, rfl, rfl⟩, .refl _ _⟩

theorem Ext.trans {B : Nat} {g g1 g2 : Gh} {o o1 o2 : Own} {H H1 H2 : Heap} {w w1 w2 : World} (h : Ext g o B H w g1 o1 H1 w1) (k : Ext g1 o1 B H1 w1 g2 o2 H2 w2) :
    Ext g o B H w g2 o2 H2 w2 where
  le := h.le.trans k.le
  ob := fun id hi => (k.ob id (Nat.lt_of_lt_of_le hi h.next)).trans (h.ob id hi)
  ar := fun id hi n => (k.ar id (h.ro ▸ hi) n).trans (h.ar id hi n)
  get := fun id hi => (k.get id (h.ro ▸ hi)).trans (h.get id hi)
  ro := k.ro.trans h.ro
  next := Nat.le_trans h.next k.next
  fr := fun b p hb => by
    obtain ⟨h1, h2, h3⟩ := h.fr b p hb
    obtain ⟨k1, k2, k3⟩ := k.fr b p h1
    exact ⟨k1, k2.trans h2, k3.trans h3⟩
  below := h.below.trans k.below
theorem MapR.mono {C : Cx} {g g' : Gh} (h : g.Le g') {es : List (AV × AV)} {ms : Array MapEntry} (r : MapR C g es ms) : MapR C g' es ms :=
  ⟨r.1, fun i x m hx hm => ⟨(r.2 i x m hx hm).1.mono h, (r.2 i x m hx hm).2.mono h⟩⟩

/-- a map elsewhere, behind a step that leaves its block as it was -/
theorem MapAt.step {C : Cx} {g g' : Gh} {own own' : Own} {w w' : World} {id : Nat} {es : List (AV × AV)} (h : MapAt C g own w id es) (hle : g.Le g') (ho : ∀ b, own b 0 = .heap id → own' b 0 = .heap id)
    (hm : ∀ b ms c, own b 0 = .heap id → w.heap[b]? = some (.map ms c) → w'.heap[b]? = some (.map ms c)) : MapAt C g' own' w' id es := by
  obtain ⟨b, h1, h2, ms, c, h3, h4⟩ := h
  exact ⟨b, hle.ob _ _ h1, ho b h2, ms, c, hm b ms c h2 h3, h4.mono hle⟩

theorem map_setCell {w : World} {a : Addr} {v : Value} {b : Nat} {ms : Array MapEntry} {c : Nat} (h : w.heap[b]? = some (.map ms c)) : (w.setCell a v).heap[b]? = some (.map ms c) := by
  simp only [World.setCell, Array.getElem?_modify, h]
  split <;> rfl
end Ey
