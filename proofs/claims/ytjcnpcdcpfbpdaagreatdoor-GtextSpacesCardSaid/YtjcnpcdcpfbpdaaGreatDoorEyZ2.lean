/- The fast form: what values are told apart by; memory; what a run answers. The destructors are printed by a program of this session. -/
import Derived.Test.YtjcnpcdcpfbpdaaGreatDoorEyZ1
namespace Ey
open Go (IntKind FloatKind BinOp UnOp)

/-- a value that a slot may hand on -/
def V.pv : V → Option AV
  | .nil => none
  | .one _ _ => none
  | .run _ _ _ _ => none
  | .wh => none
  | .no => none
  | .un => none
  | .lv _ => none
  | .lp _ _ => none
  | v => some v.av
/-- what is known of an operand's value -/
def V.val (v : V) (r : Option AV) : Prop := ∀ a, v.pv = some a → r = some a
theorem V.pv_sl {v : V} {a : AV} (h : v.pv = some a) : v.sl = .v a ∧ v.av = a ∧ (∀ s, v.den s → s = .v a) ∧ v.den (.v a) := by
  cases v <;> simp only [V.pv, Option.some.injEq, reduceCtorEq] at h <;> subst h <;> exact ⟨rfl, rfl, fun s hs => hs, rfl⟩

section
variable {α : Type}

noncomputable def iK (v : V) (d : α) (f : Nat → α) : α := @V.rec (fun _ => α) (fun n => f n) (fun _ => d) (fun _ _ => d) (fun _ _ => d) (fun _ => d) (fun _ _ _ => d) d (fun _ _ _ _ => d) (fun _ _ => d) d (fun _ _ => d) (fun _ _ _ _ => d) (fun _ _ _ => d) d (fun _ _ _ => d) d (fun _ _ => d) (fun _ _ => d) d (fun _ _ _ _ => d) (fun _ _ _ _ _ => d) d d d (fun _ _ => d) (fun _ _ => d) v
theorem iK_ok {P : α → Prop} {v : V} {r : Option AV} (hv : v.val r) {d : α} {f : Nat → α} (hd : P d) (hf : ∀ n : Nat, r = some (.int .i64 ((n : Int) - 9223372036854775808)) → P (f n)) : P (iK v d f) := by
  cases v with
  | i n => exact hf n (hv _ rfl)
  | _ => exact hd
noncomputable def uK (v : V) (d : α) (f : Nat → Nat → α) : α := @V.rec (fun _ => α) (fun _ => d) (fun _ => d) (fun q n => f q n) (fun _ _ => d) (fun _ => d) (fun _ _ _ => d) d (fun _ _ _ _ => d) (fun _ _ => d) d (fun _ _ => d) (fun _ _ _ _ => d) (fun _ _ _ => d) d (fun _ _ _ => d) d (fun _ _ => d) (fun _ _ => d) d (fun _ _ _ _ => d) (fun _ _ _ _ _ => d) d d d (fun _ _ => d) (fun _ _ => d) v
theorem uK_ok {P : α → Prop} {v : V} {r : Option AV} (hv : v.val r) {d : α} {f : Nat → Nat → α} (hd : P d) (hf : ∀ k n : Nat, r = some (.int (kk k) n) → P (f k n)) : P (uK v d f) := by
  cases v with
  | u k n => exact hf k n (hv _ rfl)
  | _ => exact hd
noncomputable def bK (v : V) (d : α) (t f : α) : α := @V.rec (fun _ => α) (fun _ => d) (fun x => @Bool.rec (fun _ => α) f t x) (fun _ _ => d) (fun _ _ => d) (fun _ => d) (fun _ _ _ => d) d (fun _ _ _ _ => d) (fun _ _ => d) d (fun _ _ => d) (fun _ _ _ _ => d) (fun _ _ _ => d) d (fun _ _ _ => d) d (fun _ _ => d) (fun _ _ => d) d (fun _ _ _ _ => d) (fun _ _ _ _ _ => d) d d d (fun _ _ => d) (fun _ _ => d) v
theorem bK_ok {P : α → Prop} {v : V} {r : Option AV} (hv : v.val r) {d t f : α} (hd : P d) (ht : r = some (.bool true) → P t) (hf : r = some (.bool false) → P f) : P (bK v d t f) := by
  cases v with
  | b x => cases x; exact hf (hv _ rfl); exact ht (hv _ rfl)
  | _ => exact hd
noncomputable def boK (v : V) (d : α) (f : Bool → α) : α := @V.rec (fun _ => α) (fun _ => d) (fun x => f x) (fun _ _ => d) (fun _ _ => d) (fun _ => d) (fun _ _ _ => d) d (fun _ _ _ _ => d) (fun _ _ => d) d (fun _ _ => d) (fun _ _ _ _ => d) (fun _ _ _ => d) d (fun _ _ _ => d) d (fun _ _ => d) (fun _ _ => d) d (fun _ _ _ _ => d) (fun _ _ _ _ _ => d) d d d (fun _ _ => d) (fun _ _ => d) v
theorem boK_ok {P : α → Prop} {v : V} {r : Option AV} (hv : v.val r) {d : α} {f : Bool → α} (hd : P d) (hf : ∀ x, r = some (.bool x) → P (f x)) : P (boK v d f) := by
  cases v with
  | b x => exact hf x (hv _ rfl)
  | _ => exact hd
noncomputable def sK (v : V) (d : α) (f : Nat → Nat → α) : α := @V.rec (fun _ => α) (fun _ => d) (fun _ => d) (fun _ _ => d) (fun l n => f l n) (fun _ => d) (fun _ _ _ => d) d (fun _ _ _ _ => d) (fun _ _ => d) d (fun _ _ => d) (fun _ _ _ _ => d) (fun _ _ _ => d) d (fun _ _ _ => d) d (fun _ _ => d) (fun _ _ => d) d (fun _ _ _ _ => d) (fun _ _ _ _ _ => d) d d d (fun _ _ => d) (fun _ _ => d) v
theorem sK_ok {P : α → Prop} {v : V} {r : Option AV} (hv : v.val r) {d : α} {f : Nat → Nat → α} (hd : P d) (hf : ∀ l n : Nat, r = some (.str (byts l n)) → P (f l n)) : P (sK v d f) := by
  cases v with
  | s l n => exact hf l n (hv _ rfl)
  | _ => exact hd
noncomputable def numK (v : V) (d : α) (fi : Nat → α) (fu : Nat → Nat → α) (fs : Nat → Nat → α) : α := @V.rec (fun _ => α) (fun n => fi n) (fun _ => d) (fun q n => fu q n) (fun l n => fs l n) (fun _ => d) (fun _ _ _ => d) d (fun _ _ _ _ => d) (fun _ _ => d) d (fun _ _ => d) (fun _ _ _ _ => d) (fun _ _ _ => d) d (fun _ _ _ => d) d (fun _ _ => d) (fun _ _ => d) d (fun _ _ _ _ => d) (fun _ _ _ _ _ => d) d d d (fun _ _ => d) (fun _ _ => d) v
theorem numK_ok {P : α → Prop} {v : V} {r : Option AV} (hv : v.val r) {d : α} {fi : Nat → α} {fu fs : Nat → Nat → α} (hd : P d) (hi : ∀ n : Nat, r = some (.int .i64 ((n : Int) - 9223372036854775808)) → P (fi n)) (hu : ∀ k n : Nat, r = some (.int (kk k) n) → P (fu k n)) (hs : ∀ l n : Nat, r = some (.str (byts l n)) → P (fs l n)) : P (numK v d fi fu fs) := by
  cases v with
  | i n => exact hi n (hv _ rfl)
  | u k n => exact hu k n (hv _ rfl)
  | s l n => exact hs l n (hv _ rfl)
  | _ => exact hd
noncomputable def slcK' (v : V) (d : α) (fl : Bool → V → α) (fc : α) (fm : Nat → Nat → Nat → Nat → α) : α := @V.rec (fun _ => α) (fun _ => d) (fun _ => d) (fun _ _ => d) (fun _ _ => d) (fun _ => d) (fun nl c _ => fl nl c) (fc) (fun id ver lo len => fm id ver lo len) (fun _ _ => d) d (fun _ _ => d) (fun _ _ _ _ => d) (fun _ _ _ => d) d (fun _ _ _ => d) d (fun _ _ => d) (fun _ _ => d) d (fun _ _ _ _ => d) (fun _ _ _ _ _ => d) d d d (fun _ _ => d) (fun _ _ => d) v
theorem slcK'_ok {P : α → Prop} {v : V} {r : Option AV} (hv : v.val r) {d : α} {fl : Bool → V → α} {fc : α} {fm : Nat → Nat → Nat → Nat → α} (hd : P d) (hl : ∀ nl c, r = some (.list nl c.cl) → P (fl nl c)) (hc : r = some .cap0 → P fc) (hm : ∀ id ver lo len, r = some (.ms id ver lo len) → P (fm id ver lo len)) : P (slcK' v d fl fc fm) := by
  cases v with
  | li nl c => exact hl nl c (hv _ rfl)
  | c0 => exact hc (hv _ rfl)
  | ms id ver lo len => exact hm id ver lo len (hv _ rfl)
  | _ => exact hd
noncomputable def agK (v : V) (d : α) (f : V → α) : α := @V.rec (fun _ => α) (fun _ => d) (fun _ => d) (fun _ _ => d) (fun _ _ => d) (fun _ => d) (fun _ _ _ => d) d (fun _ _ _ _ => d) (fun _ _ => d) d (fun _ _ => d) (fun _ _ _ _ => d) (fun _ _ _ => d) d (fun _ _ _ => d) d (fun c _ => f c) (fun _ _ => d) d (fun _ _ _ _ => d) (fun _ _ _ _ _ => d) d d d (fun _ _ => d) (fun _ _ => d) v
theorem agK_ok {P : α → Prop} {v : V} {r : Option AV} (hv : v.val r) {d : α} {f : V → α} (hd : P d) (hf : ∀ c, r = some (.agg c.cl) → P (f c)) : P (agK v d f) := by
  cases v with
  | ag c => exact hf c (hv _ rfl)
  | _ => exact hd
noncomputable def tuK (v : V) (d : α) (f : V → α) : α := @V.rec (fun _ => α) (fun _ => d) (fun _ => d) (fun _ _ => d) (fun _ _ => d) (fun _ => d) (fun _ _ _ => d) d (fun _ _ _ _ => d) (fun _ _ => d) d (fun _ _ => d) (fun _ _ _ _ => d) (fun _ _ _ => d) d (fun _ _ _ => d) d (fun _ _ => d) (fun c _ => f c) d (fun _ _ _ _ => d) (fun _ _ _ _ _ => d) d d d (fun _ _ => d) (fun _ _ => d) v
theorem tuK_ok {P : α → Prop} {v : V} {r : Option AV} (hv : v.val r) {d : α} {f : V → α} (hd : P d) (hf : ∀ c, r = some (.tup c.cl) → P (f c)) : P (tuK v d f) := by
  cases v with
  | tu c => exact hf c (hv _ rfl)
  | _ => exact hd
noncomputable def imK (v : V) (d : α) (f : V → α) : α := @V.rec (fun _ => α) (fun _ => d) (fun _ => d) (fun _ _ => d) (fun _ _ => d) (fun _ => d) (fun _ _ _ => d) d (fun _ _ _ _ => d) (fun y _ => f y) d (fun _ _ => d) (fun _ _ _ _ => d) (fun _ _ _ => d) d (fun _ _ _ => d) d (fun _ _ => d) (fun _ _ => d) d (fun _ _ _ _ => d) (fun _ _ _ _ _ => d) d d d (fun _ _ => d) (fun _ _ => d) v
theorem imK_ok {P : α → Prop} {v : V} {r : Option AV} (hv : v.val r) {d : α} {f : V → α} (hd : P d) (hf : ∀ c, r = some (.imm c.av) → P (f c)) : P (imK v d f) := by
  cases v with
  | im c => exact hf c (hv _ rfl)
  | _ => exact hd
noncomputable def fnK' (v : V) (d : α) (f : Nat → V → α) : α := @V.rec (fun _ => α) (fun _ => d) (fun _ => d) (fun _ _ => d) (fun _ _ => d) (fun _ => d) (fun _ _ _ => d) d (fun _ _ _ _ => d) (fun _ _ => d) d (fun _ _ => d) (fun _ _ _ _ => d) (fun g c _ => f g c) d (fun _ _ _ => d) d (fun _ _ => d) (fun _ _ => d) d (fun _ _ _ _ => d) (fun _ _ _ _ _ => d) d d d (fun _ _ => d) (fun _ _ => d) v
theorem fnK'_ok {P : α → Prop} {v : V} {r : Option AV} (hv : v.val r) {d : α} {f : Nat → V → α} (hd : P d) (hf : ∀ g c, r = some (.fn g c.cl) → P (f g c)) : P (fnK' v d f) := by
  cases v with
  | fn g c => exact hf g c (hv _ rfl)
  | _ => exact hd
noncomputable def fcK (v : V) (d : α) (f : Nat → V → α) (z : α) : α := @V.rec (fun _ => α) (fun _ => d) (fun _ => d) (fun _ _ => d) (fun _ _ => d) (fun _ => d) (fun _ _ _ => d) d (fun _ _ _ _ => d) (fun _ _ => d) d (fun _ _ => d) (fun _ _ _ _ => d) (fun _ _ _ => d) d (fun t y _ => f t y) (z) (fun _ _ => d) (fun _ _ => d) d (fun _ _ _ _ => d) (fun _ _ _ _ _ => d) d d d (fun _ _ => d) (fun _ _ => d) v
theorem fcK_ok {P : α → Prop} {v : V} {r : Option AV} (hv : v.val r) {d : α} {f : Nat → V → α} {z : α} (hd : P d) (hf : ∀ t x, r = some (.iface t x.av) → P (f t x)) (hz : r = some .niliface → P z) : P (fcK v d f z) := by
  cases v with
  | fc t x => exact hf t x (hv _ rfl)
  | nc => exact hz (hv _ rfl)
  | _ => exact hd
/-- any value that may be handed on -/
noncomputable def vK (v : V) (d k : α) : α := @V.rec (fun _ => α) (fun _ => k) (fun _ => k) (fun _ _ => k) (fun _ _ => k) (fun _ => k) (fun _ _ _ => k) (k) (fun _ _ _ _ => k) (fun _ _ => k) (k) (fun _ _ => k) (fun _ _ _ _ => k) (fun _ _ _ => k) (k) (fun _ _ _ => k) (k) (fun _ _ => k) (fun _ _ => k) d (fun _ _ _ _ => d) (fun _ _ _ _ _ => d) d d d (fun _ _ => d) (fun _ _ => d) v
theorem vK_ok {P : α → Prop} {v : V} {d k : α} (hd : P d) (hk : v.pv = some v.av → P k) : P (vK v d k) := by
  cases v <;> first | exact hk rfl | exact hd
/-- what a loop keeps of a slot, at hand -/
noncomputable def keK (v : V) (k : V → α) : α := @V.rec (fun _ => α) (fun n => k (.i n)) (fun x => k (.b x)) (fun q n => k (.u q n)) (fun l n => k (.s l n)) (fun y => k (.x y)) (fun nl c _ => k (.li nl c)) (k (.c0)) (fun id ver lo len => k (.ms id ver lo len)) (fun y _ => k (.im y)) (k (.np)) (fun id o1 => k (.pt id o1)) (fun id ver i o1 => k (.ap id ver i o1)) (fun g c _ => k (.fn g c)) (k (.nf)) (fun t y _ => k (.fc t y)) (k (.nc)) (fun c _ => k (.ag c)) (fun c _ => k (.tu c)) (k (.nil)) (fun h t _ _ => k (.one h t)) (fun q l n t _ => k (.run q l n t)) (k (.wh)) (k (.no)) (k (.un)) (fun c _ => k (.lv c)) (fun _ _ => k .no) v
theorem keK_ok {P : α → Prop} {v : V} {k : V → α} (h : ∀ w, (∀ s, v.den s → w.den (match s with | .lp _ _ => .no | x => x)) → P (k w)) : P (keK v k) := by
  cases v <;> first | exact h _ (fun s hs => trivial) | exact h _ (fun s hs => by cases hs; rfl)
/-- what an operand hands on: a local variable's slot is its address -/
def V.sle (n : Nat) (v : V) : Sl := match v with
  | .lv _ => .lp n 0
  | v => v.sl
def V.dle (n : Nat) (v : V) (t : Sl) : Prop := match v with
  | .wh => True
  | v => t = v.sle n
noncomputable def mvK (n : Nat) (v : V) (d : α) (k : V → α) : α := @V.rec (fun _ => α) (fun _ => k v) (fun _ => k v) (fun _ _ => k v) (fun _ _ => k v) (fun _ => k v) (fun _ _ _ => k v) (k v) (fun _ _ _ _ => k v) (fun _ _ => k v) (k v) (fun _ _ => k v) (fun _ _ _ _ => k v) (fun _ _ _ => k v) (k v) (fun _ _ _ => k v) (k v) (fun _ _ => k v) (fun _ _ => k v) d (fun _ _ _ _ => d) (fun _ _ _ _ _ => d) d d d (fun _ _ => k (.lp n 0)) (fun _ _ => k v) v
theorem mvK_ok {P : α → Prop} {n : Nat} {v : V} {s : Sl} (hv : v.dle n s) {d : α} {k : V → α} (hd : P d) (h : ∀ w, w.den s → (match s with | .v y => some (Sl.v y) | .lp s o => some (.lp s o) | _ => none) = some s → P (k w)) : P (mvK n v d k) := by
  cases v <;> first | exact hd | (obtain rfl : s = _ := hv; exact h _ rfl rfl)
noncomputable def adK (n : Nat) (v : V) (d : α) (fl : Nat → Nat → α) (fi : V → α) (fp : Nat → Nat → α) (fa : Nat → Nat → Nat → Nat → α) : α := @V.rec (fun _ => α) (fun _ => d) (fun _ => d) (fun _ _ => d) (fun _ _ => d) (fun _ => d) (fun _ _ _ => d) d (fun _ _ _ _ => d) (fun y _ => fi y) d (fun id o1 => fp id o1) (fun id ver i o1 => fa id ver i o1) (fun _ _ _ => d) d (fun _ _ _ => d) d (fun _ _ => d) (fun _ _ => d) d (fun _ _ _ _ => d) (fun _ _ _ _ _ => d) d d d (fun _ _ => fl n 0) (fun s o => fl s o) v
theorem adK_ok {P : α → Prop} {n : Nat} {v : V} {s : Sl} (hv : v.dle n s) {d : α} {fl : Nat → Nat → α} {fi : V → α} {fp : Nat → Nat → α} {fa : Nat → Nat → Nat → Nat → α} (hd : P d)
    (hl : ∀ t o, s = .lp t o → P (fl t o)) (hi : ∀ x, s = .v (.imm x.av) → P (fi x)) (hp : ∀ i o, s = .v (.ptr i o) → P (fp i o)) (ha : ∀ i w j o, s = .v (.ap i w j o) → P (fa i w j o)) : P (adK n v d fl fi fp fa) := by
  cases v with
  | lv c => exact hl _ _ hv
  | lp t o => exact hl _ _ hv
  | im x => exact hi _ hv
  | pt i o => exact hp _ _ hv
  | ap i w j o => exact ha _ _ _ _ hv
  | _ => exact hd
noncomputable def lvK' (v : V) (d : α) (f : V → α) : α := @V.rec (fun _ => α) (fun _ => d) (fun _ => d) (fun _ _ => d) (fun _ _ => d) (fun _ => d) (fun _ _ _ => d) d (fun _ _ _ _ => d) (fun _ _ => d) d (fun _ _ => d) (fun _ _ _ _ => d) (fun _ _ _ => d) d (fun _ _ _ => d) d (fun _ _ => d) (fun _ _ => d) d (fun _ _ _ _ => d) (fun _ _ _ _ _ => d) d d d (fun c _ => f c) (fun _ _ => d) v
theorem lvK'_ok {P : α → Prop} {v : V} {s : Sl} (hv : v.den s) {d : α} {f : V → α} (hd : P d) (hf : ∀ c, s = .lv c.cl → P (f c)) : P (lvK' v d f) := by
  cases v with
  | lv c => exact hf c hv
  | _ => exact hd
noncomputable def nlK (v : V) (d k : α) : α := @V.rec (fun _ => α) (fun _ => k) (fun _ => k) (fun _ _ => k) (fun _ _ => k) (fun _ => k) (fun _ _ _ => k) (k) (fun _ _ _ _ => k) (fun _ _ => k) (k) (fun _ _ => k) (fun _ _ _ _ => k) (fun _ _ _ => k) (k) (fun _ _ _ => k) (k) (fun _ _ => k) (fun _ _ => k) d (fun _ _ _ _ => d) (fun _ _ _ _ _ => d) d (k) (k) (fun _ _ => d) (fun _ _ => k) v
theorem nlK_ok {P : α → Prop} {v : V} {s : Sl} (hv : v.den s) {d k : α} (hd : P d) (hk : (∀ c, s ≠ .lv c) → P k) : P (nlK v d k) := by
  cases v <;> first | exact hd | (obtain rfl : s = _ := hv; exact hk (fun c h => by cases h))
/-- a guard: wanted, not wanted -/
noncomputable def guK (v : V) (want : Bool) (d k s : α) : α := @V.rec (fun _ => α) (fun _ => d) (fun x => @Bool.rec (fun _ => α) (@Bool.rec (fun _ => α) k s want) (@Bool.rec (fun _ => α) s k want) x) (fun _ _ => d) (fun _ _ => d) (fun _ => d) (fun _ _ _ => d) d (fun _ _ _ _ => d) (fun _ _ => d) d (fun _ _ => d) (fun _ _ _ _ => d) (fun _ _ _ => d) d (fun _ _ _ => d) d (fun _ _ => d) (fun _ _ => d) d (fun _ _ _ _ => d) (fun _ _ _ _ _ => d) d d (s) (fun _ _ => d) (fun _ _ => d) v
def guS (sl : Sl) (want : Bool) : Option Bool := match sl with
  | .v (.bool b) => some (b == want)
  | .un => some false
  | _ => none
theorem guK_ok {P : α → Prop} {v : V} {sl : Sl} (hv : v.den sl) {want : Bool} {d k s : α} (hd : P d) (hk : guS sl want = some true → P k) (hs : guS sl want = some false → P s) : P (guK v want d k s) := by
  cases v with
  | b x => obtain rfl : sl = _ := hv; cases x <;> cases want <;> first | exact hk rfl | exact hs rfl
  | un => obtain rfl : sl = _ := hv; exact hs rfl
  | _ => exact hd
noncomputable def npK (v : V) (d : α) (z n : α) : α := @V.rec (fun _ => α) (fun _ => d) (fun _ => d) (fun _ _ => d) (fun _ _ => d) (fun _ => d) (fun _ _ _ => d) d (fun _ _ _ _ => d) (fun _ _ => n) (z) (fun _ _ => n) (fun _ _ _ _ => n) (fun _ _ _ => d) d (fun _ _ _ => d) d (fun _ _ => d) (fun _ _ => d) d (fun _ _ _ _ => d) (fun _ _ _ _ _ => d) d d d (fun _ _ => d) (fun _ _ => d) v
theorem npK_ok {P : α → Prop} {v : V} {r : Option AV} (hv : v.val r) {d z n : α} (hd : P d) (hz : r = some .nilp → P z) (hn : (∃ y, r = some (.imm y)) ∨ (∃ i o, r = some (.ptr i o)) ∨ (∃ i w j o, r = some (.ap i w j o)) → P n) : P (npK v d z n) := by
  cases v with
  | np => exact hz (hv _ rfl)
  | im y => exact hn (.inl ⟨_, hv _ rfl⟩)
  | pt i o => exact hn (.inr (.inl ⟨_, _, hv _ rfl⟩))
  | ap i w j o => exact hn (.inr (.inr ⟨_, _, _, _, hv _ rfl⟩))
  | _ => exact hd
noncomputable def nfK (v : V) (d : α) (z n : α) : α := @V.rec (fun _ => α) (fun _ => d) (fun _ => d) (fun _ _ => d) (fun _ _ => d) (fun _ => d) (fun _ _ _ => d) d (fun _ _ _ _ => d) (fun _ _ => d) d (fun _ _ => d) (fun _ _ _ _ => d) (fun _ _ _ => n) (z) (fun _ _ _ => d) d (fun _ _ => d) (fun _ _ => d) d (fun _ _ _ _ => d) (fun _ _ _ _ _ => d) d d d (fun _ _ => d) (fun _ _ => d) v
theorem nfK_ok {P : α → Prop} {v : V} {r : Option AV} (hv : v.val r) {d z n : α} (hd : P d) (hz : r = some .nilfn → P z) (hn : (∃ g c, r = some (.fn g c)) → P n) : P (nfK v d z n) := by
  cases v with
  | nf => exact hz (hv _ rfl)
  | fn g c => exact hn ⟨_, _, hv _ rfl⟩
  | _ => exact hd
noncomputable def ncmK (n : Nat) (v : V) (d : α) (k : V → α) : α := @V.rec (fun _ => α) (fun _ => d) (fun _ => d) (fun _ _ => d) (fun _ _ => d) (fun _ => d) (fun _ _ _ => d) d (fun _ _ _ _ => d) (fun _ _ => k v) d (fun _ _ => k v) (fun _ _ _ _ => k v) (fun _ _ _ => k v) d (fun _ _ _ => d) d (fun _ _ => d) (fun _ _ => d) d (fun _ _ _ _ => d) (fun _ _ _ _ _ => d) d d d (fun _ _ => k (.lp n 0)) (fun _ _ => k v) v
theorem ncmK_ok {P : α → Prop} {n : Nat} {v : V} {s : Sl} (hv : v.dle n s) {d : α} {k : V → α} (hd : P d) (h : ∀ w, w.den s → (match s with
    | .lp s o => some (Sl.lp s o)
    | .v (.imm y) => some (.v (.imm y))
    | .v (.ptr id o) => some (.v (.ptr id o))
    | .v (.ap id ver i o) => some (.v (.ap id ver i o))
    | .v (.fn f c) => some (.v (.fn f c))
    | _ => none) = some s → P (k w)) : P (ncmK n v d k) := by
  cases v <;> first | exact hd | (obtain rfl : s = _ := hv; exact h _ rfl rfl)
noncomputable def unK (v : V) (d : α) (f : V → V → α) : α := @V.rec (fun _ => α) (fun _ => d) (fun _ => d) (fun _ _ => d) (fun _ _ => d) (fun _ => d) (fun _ _ _ => d) d (fun _ _ _ _ => d) (fun _ _ => d) d (fun _ _ => d) (fun _ _ _ _ => d) (fun _ _ _ => d) d (fun _ _ _ => d) d (fun _ _ => d) (fun _ _ => d) d (fun h t _ _ => f h t) (fun _ _ _ _ _ => d) d d d (fun _ _ => d) (fun _ _ => d) v
theorem unK_ok {P : α → Prop} {v : V} {d : α} {f : V → V → α} (hd : P d) (hf : ∀ h t, v = .one h t → P (f h t)) : P (unK v d f) := by
  cases v with
  | one h t => exact hf h t rfl
  | _ => exact hd
noncomputable def nxK (v : V) (d k : α) : α := @V.rec (fun _ => α) (fun _ => d) (fun _ => d) (fun _ _ => d) (fun _ _ => d) (fun _ => d) (fun _ _ _ => d) d (fun _ _ _ _ => d) (fun _ _ => d) d (fun _ _ => d) (fun _ _ _ _ => d) (fun _ _ _ => d) d (fun _ _ _ => d) d (fun _ _ => d) (fun _ _ => d) (k) (fun _ _ _ _ => d) (fun _ _ _ _ _ => d) d d d (fun _ _ => d) (fun _ _ => d) v
theorem nxK_ok {P : α → Prop} {v : V} {d k : α} (hd : P d) (hk : v = .nil → P k) : P (nxK v d k) := by
  cases v with
  | nil => exact hk rfl
  | _ => exact hd
noncomputable def oneA (v : AV) : Bool := @AV.casesOn (fun _ => Bool) v false (fun _ => true) (fun _ _ => true) (fun _ => true) (fun _ _ => true) (fun _ _ => true) true (fun _ _ _ _ => true) (fun _ => true) true (fun _ _ => true) (fun _ _ _ _ => true) (fun _ _ => true) true (fun _ _ => true) true (fun _ => false) (fun _ => false) (fun _ => true) true
theorem oneA_cells {v : AV} (h : oneA v = true) : v.cells = [v] ∧ v.one = true := by cases v <;> first | exact ⟨rfl, rfl⟩ | cases h
theorem ifB_ok {P : α → Prop} {c : Bool} {d k : α} (hd : P d) (hk : c = true → P k) : P (ifB c d k) := by
  cases c; exact hd; exact hk rfl
/-- a value's cells -/
noncomputable def ceK (v : V) (d : α) (f : V → α) : α := @V.rec (fun _ => α) (fun _ => f (.one v .nil)) (fun _ => f (.one v .nil)) (fun _ _ => f (.one v .nil)) (fun _ _ => f (.one v .nil)) (fun y => ifB (oneA y) d (f (.one v .nil))) (fun _ _ _ => f (.one v .nil)) (f (.one v .nil)) (fun _ _ _ _ => f (.one v .nil)) (fun _ _ => f (.one v .nil)) (f (.one v .nil)) (fun _ _ => f (.one v .nil)) (fun _ _ _ _ => f (.one v .nil)) (fun _ _ _ => f (.one v .nil)) (f (.one v .nil)) (fun _ _ _ => f (.one v .nil)) (f (.one v .nil)) (fun c _ => f c) (fun _ _ => f .nil) d (fun _ _ _ _ => d) (fun _ _ _ _ _ => d) d d d (fun _ _ => d) (fun _ _ => d) v
theorem ceK_ok' {P : α → Prop} {v : V} {d : α} {f : V → α} (hd : P d) (hf : ∀ c : V, v.pv = some v.av → c.cl = v.av.cells → ((∃ u, v = .ag u) ∨ ∀ l, v.av ≠ .agg l) → P (f c)) : P (ceK v d f) := by
  cases v with
  | x v0 =>
    refine ifB_ok (P := P) hd fun h => hf _ rfl ?_ (.inr fun l hl => ?_)
    · simp only [V.cl, V.av, (oneA_cells h).1]
    · simp only [V.av] at hl; subst hl; cases h
  | ag c => exact hf _ rfl rfl (.inl ⟨c, rfl⟩)
  | tu c => exact hf _ rfl rfl (.inr fun l h => by cases h)
  | nil => exact hd
  | one h t => exact hd
  | run k l n t => exact hd
  | wh => exact hd
  | no => exact hd
  | un => exact hd
  | lv c => exact hd
  | lp s o => exact hd
  | _ => exact hf _ rfl rfl (.inr fun l h => by cases h)
theorem ceK_ok {P : α → Prop} {v : V} {d : α} {f : V → α} (hd : P d) (hf : ∀ c : V, v.pv = some v.av → c.cl = v.av.cells → P (f c)) : P (ceK v d f) :=
  ceK_ok' hd fun c h1 h2 _ => hf c h1 h2
/-- a value of one cell -/
noncomputable def onK (v : V) (d k : α) : α := @V.rec (fun _ => α) (fun _ => k) (fun _ => k) (fun _ _ => k) (fun _ _ => k) (fun y => ifB (oneA y) d k) (fun _ _ _ => k) (k) (fun _ _ _ _ => k) (fun _ _ => k) (k) (fun _ _ => k) (fun _ _ _ _ => k) (fun _ _ _ => k) (k) (fun _ _ _ => k) (k) (fun _ _ => d) (fun _ _ => d) d (fun _ _ _ _ => d) (fun _ _ _ _ _ => d) d d d (fun _ _ => d) (fun _ _ => d) v
theorem onK_ok {P : α → Prop} {v : V} {d k : α} (hd : P d) (hk : v.pv = some v.av → v.av.one = true → P k) : P (onK v d k) := by
  cases v with
  | x y => exact ifB_ok (P := P) hd fun h => hk rfl (oneA_cells h).2
  | ag c => exact hd
  | tu c => exact hd
  | nil => exact hd
  | one h t => exact hd
  | run k l n t => exact hd
  | wh => exact hd
  | no => exact hd
  | un => exact hd
  | lv c => exact hd
  | lp s o => exact hd
  | _ => exact hk rfl rfl
theorem one_cells {v : AV} (h : v.one = true) : v.cells = [v] := by cases v <;> first | rfl | cases h
/-- how many cells -/
noncomputable def ncK (v : V) (d : α) (f : Nat → α) : α := @V.rec (fun _ => α) (fun _ => f 1) (fun _ => f 1) (fun _ _ => f 1) (fun _ _ => f 1) (fun y => ifB (oneA y) d (f 1)) (fun _ _ _ => f 1) (f 1) (fun _ _ _ _ => f 1) (fun _ _ => f 1) (f 1) (fun _ _ => f 1) (fun _ _ _ _ => f 1) (fun _ _ _ => f 1) (f 1) (fun _ _ _ => f 1) (f 1) (fun c _ => f (lenC c)) (fun _ _ => f 0) d (fun _ _ _ _ => d) (fun _ _ _ _ _ => d) d d d (fun _ _ => d) (fun _ _ => d) v
theorem ncK_ok {P : α → Prop} {v : V} {d : α} {f : Nat → α} (hd : P d) (hf : v.pv = some v.av → P (f v.av.cells.length)) : P (ncK v d f) := by
  cases v with
  | x v0 =>
    refine ifB_ok (P := P) hd fun h => ?_
    have := hf rfl
    simp only [V.av, (oneA_cells h).1] at this
    exact this
  | ag c =>
    have := hf rfl
    simp only [V.av, AV.cells, ← lenC_eq] at this
    exact this
  | nil => exact hd
  | one h t => exact hd
  | run k l n t => exact hd
  | wh => exact hd
  | no => exact hd
  | un => exact hd
  | lv c => exact hd
  | lp s o => exact hd
  | _ => exact hf rfl

/-- a part of some cells -/
noncomputable def paK (sz : Nat) (ag : Bool) (c : V) (off : Nat) (d : α) (f : V → α) : α := @Bool.rec (fun _ => α) (nthC d f c off)
  (ifB (Nat.ble (Nat.add off sz) (lenC c)) d (f (.ag (takeC (dropC c off) sz)))) ag
theorem paK_ok {P : α → Prop} {sz : Nat} {ag : Bool} {c : V} {off : Nat} {d : α} {f : V → α} (hd : P d) (hf : ∀ v : V, part sz ag c.cl off = some v.av → P (f v)) : P (paK sz ag c off d f) := by
  cases ag with
  | false => exact nthC_ok hd c off fun v hv => hf v (by simpa [part] using hv)
  | true =>
    show P (ifB _ _ _)
    rw [ifB_ble, lenC_eq]
    split
    · rename_i h
      refine hf _ ?_
      have h' : off + sz ≤ c.cl.length := h
      simp only [part, if_true, if_pos h', V.av, takeC_eq, dropC_eq]
    · exact hd
/-- so are parts proper values -/
noncomputable def pvK (v : V) (d : α) (f : V → α) : α := vK v d (f v)

/-- a part of a value's cells -/
noncomputable def peK (sz : Nat) (ag : Bool) (v : V) (off : Nat) (d : α) (f : V → α) : α := @V.rec (fun _ => α) (fun _ => @Bool.rec (fun _ => α) (@Nat.rec (fun _ => α) (f v) (fun _ _ => d) off) d ag) (fun _ => @Bool.rec (fun _ => α) (@Nat.rec (fun _ => α) (f v) (fun _ _ => d) off) d ag) (fun _ _ => @Bool.rec (fun _ => α) (@Nat.rec (fun _ => α) (f v) (fun _ _ => d) off) d ag) (fun _ _ => @Bool.rec (fun _ => α) (@Nat.rec (fun _ => α) (f v) (fun _ _ => d) off) d ag) (fun y => ifB (oneA y) d (@Bool.rec (fun _ => α) (@Nat.rec (fun _ => α) (f v) (fun _ _ => d) off) d ag)) (fun _ _ _ => @Bool.rec (fun _ => α) (@Nat.rec (fun _ => α) (f v) (fun _ _ => d) off) d ag) (@Bool.rec (fun _ => α) (@Nat.rec (fun _ => α) (f v) (fun _ _ => d) off) d ag) (fun _ _ _ _ => @Bool.rec (fun _ => α) (@Nat.rec (fun _ => α) (f v) (fun _ _ => d) off) d ag) (fun _ _ => @Bool.rec (fun _ => α) (@Nat.rec (fun _ => α) (f v) (fun _ _ => d) off) d ag) (@Bool.rec (fun _ => α) (@Nat.rec (fun _ => α) (f v) (fun _ _ => d) off) d ag) (fun _ _ => @Bool.rec (fun _ => α) (@Nat.rec (fun _ => α) (f v) (fun _ _ => d) off) d ag) (fun _ _ _ _ => @Bool.rec (fun _ => α) (@Nat.rec (fun _ => α) (f v) (fun _ _ => d) off) d ag) (fun _ _ _ => @Bool.rec (fun _ => α) (@Nat.rec (fun _ => α) (f v) (fun _ _ => d) off) d ag) (@Bool.rec (fun _ => α) (@Nat.rec (fun _ => α) (f v) (fun _ _ => d) off) d ag) (fun _ _ _ => @Bool.rec (fun _ => α) (@Nat.rec (fun _ => α) (f v) (fun _ _ => d) off) d ag) (@Bool.rec (fun _ => α) (@Nat.rec (fun _ => α) (f v) (fun _ _ => d) off) d ag) (fun c _ => paK sz ag c off d f) (fun _ _ => d) d (fun _ _ _ _ => d) (fun _ _ _ _ _ => d) d d d (fun _ _ => d) (fun _ _ => d) v
theorem peK_ok {P : α → Prop} {sz : Nat} {ag : Bool} {v : V} {off : Nat} {d : α} {f : V → α} (hd : P d) (hf : ∀ w : V, v.pv = some v.av → part sz ag v.av.cells off = some w.av → P (f w)) : P (peK sz ag v off d f) := by
  have plain : v.pv = some v.av → v.av.cells = [v.av] → P (@Bool.rec (fun _ => α) (@Nat.rec (fun _ => α) (f v) (fun _ _ => d) off) d ag) := fun h1 h2 => by
    cases ag with
    | true => exact hd
    | false =>
      cases off with
      | zero => exact hf v h1 (by simp [part, h2])
      | succ o => exact hd
  cases v with
  | x v0 => exact ifB_ok (P := P) hd fun h => plain rfl (oneA_cells h).1
  | ag c => exact paK_ok hd fun w hw => hf w rfl hw
  | tu c => exact hd
  | nil => exact hd
  | one h t => exact hd
  | run k l n t => exact hd
  | wh => exact hd
  | no => exact hd
  | un => exact hd
  | lv c => exact hd
  | lp s o => exact hd
  | _ => exact plain rfl rfl
end

/-- are a list's values all of so many cells? -/
noncomputable def allC (sz : Nat) : V → Bool := clRec true (fun h _ ih => ncK h false fun n => ifB (Nat.beq n sz) false ih) (fun _ _ _ _ ih => ifB (Nat.beq sz 1) false ih)
theorem digs_cells (k : Nat) : ∀ l n, (digs k l n).all (fun x => x.cells.length == 1) = true
  | 0, _ => rfl
  | l + 1, n => by
    simp only [digs, List.all_cons, digs_cells k l, Bool.and_true]
    match k with
    | 0 => rfl
    | 1 => rfl
    | k + 2 => rfl
theorem allC_ok (sz : Nat) (c : V) : allC sz c = true → c.cl.all (fun x => x.cells.length == sz) = true := by
  refine cl_cases (P := fun c => allC sz c = true → c.cl.all (fun x => x.cells.length == sz) = true) (fun h t ih => ?_) (fun k l n t ih => ?_) (fun v h0 h1 => ?_) c
  · show (ncK h false fun n => ifB (Nat.beq n sz) false (allC sz t)) = true → _
    refine ncK_ok (P := fun b => b = true → _) (fun h => by cases h) fun _ => ?_
    rw [ifB_beq]
    split
    · rename_i hn
      intro ht
      simp only [V.cl, List.all_cons, ih ht, Bool.and_true]
      simpa using hn
    · intro h; cases h
  · show (ifB (Nat.beq sz 1) false (allC sz t)) = true → _
    rw [ifB_beq]
    split
    · rename_i hn
      subst hn
      intro ht
      simp only [V.cl, List.all_append, digs_cells, ih ht, Bool.and_true]
    · intro h; cases h
  · intro _; rw [h1]; rfl

/-! ### memory -/
inductive HB where
  | nil
  | obj (i : Nat) (c : V) (t : HB)
  | arr (i : Nat) (nl : Bool) (sz len : Nat) (c : V) (t : HB)
  | mp (i : Nat) (c : V) (t : HB)
/-- a map's entries: keys and what they lead to, by turns -/
def prs : List AV → List (AV × AV)
  | k :: v :: r => (k, v) :: prs r
  | _ => []
def HB.get : HB → Nat → Option Blk
  | .nil, _ => none
  | .obj i c t, j => if j = i then some (.obj c.cl) else t.get j
  | .arr i nl sz _ c t, j => if j = i then some (.arr nl sz c.cl) else t.get j
  | .mp i c t, j => if j = i then some (.map (prs c.cl)) else t.get j
def HB.ok : HB → Prop
  | .nil => True
  | .obj _ _ t => t.ok
  | .arr _ _ _ len c t => len = c.cl.length ∧ t.ok
  | .mp _ c t => c.cl.length % 2 = 0 ∧ t.ok
structure ZH where
  next : Nat
  ro : Nat
  bl : HB
def ZH.heap (H : ZH) : Heap := ⟨H.next, H.ro, H.bl.get⟩
def ZH.ok (H : ZH) : Prop := H.bl.ok

section
variable {α : Type}
noncomputable def obK (i : Nat) (d : α) (f : V → α) : HB → α := @HB.rec (fun _ => α) d (fun j c _ ih => @Bool.rec (fun _ => α) ih (f c) (Nat.beq i j)) (fun j _ _ _ _ _ ih => @Bool.rec (fun _ => α) ih d (Nat.beq i j)) (fun j _ _ ih => @Bool.rec (fun _ => α) ih d (Nat.beq i j))
theorem obK_ok {P : α → Prop} {i : Nat} {d : α} {f : V → α} (hd : P d) : ∀ (t : HB), (∀ c : V, t.get i = some (.obj c.cl) → P (f c)) → P (obK i d f t)
  | .nil, _ => hd
  | .obj j c t, hf => by
    show P (ifB (Nat.beq i j) (obK i d f t) (f c))
    rw [ifB_beq]
    split
    · rename_i h; exact hf c (by simp [HB.get, h])
    · rename_i h; exact obK_ok hd t fun c hc => hf c (by simp [HB.get, h, hc])
  | .arr j _ _ _ _ t, hf => by
    show P (ifB (Nat.beq i j) (obK i d f t) d)
    rw [ifB_beq]
    split
    · exact hd
    · rename_i h; exact obK_ok hd t fun c hc => hf c (by simp [HB.get, h, hc])
  | .mp j _ t, hf => by
    show P (ifB (Nat.beq i j) (obK i d f t) d)
    rw [ifB_beq]
    split
    · exact hd
    · rename_i h; exact obK_ok hd t fun c hc => hf c (by simp [HB.get, h, hc])
noncomputable def arK (i : Nat) (d : α) (f : Bool → Nat → Nat → V → α) : HB → α := @HB.rec (fun _ => α) d (fun j _ _ ih => @Bool.rec (fun _ => α) ih d (Nat.beq i j)) (fun j nl sz len c _ ih => @Bool.rec (fun _ => α) ih (f nl sz len c) (Nat.beq i j)) (fun j _ _ ih => @Bool.rec (fun _ => α) ih d (Nat.beq i j))
theorem arK_ok {P : α → Prop} {i : Nat} {d : α} {f : Bool → Nat → Nat → V → α} (hd : P d) : ∀ (t : HB), t.ok → (∀ nl sz (c : V), t.get i = some (.arr nl sz c.cl) → P (f nl sz c.cl.length c)) → P (arK i d f t)
  | .nil, _, _ => hd
  | .obj j c t, ht, hf => by
    show P (ifB (Nat.beq i j) (arK i d f t) d)
    rw [ifB_beq]
    split
    · exact hd
    · rename_i h; exact arK_ok hd t ht fun nl sz c hc => hf nl sz c (by simp [HB.get, h, hc])
  | .arr j nl sz len c t, ht, hf => by
    show P (ifB (Nat.beq i j) (arK i d f t) (f nl sz len c))
    rw [ifB_beq]
    split
    · rename_i h; rw [ht.1]; exact hf nl sz c (by simp [HB.get, h])
    · rename_i h; exact arK_ok hd t ht.2 fun nl sz c hc => hf nl sz c (by simp [HB.get, h, hc])
  | .mp j _ t, ht, hf => by
    show P (ifB (Nat.beq i j) (arK i d f t) d)
    rw [ifB_beq]
    split
    · exact hd
    · rename_i h; exact arK_ok hd t ht.2 fun nl sz c hc => hf nl sz c (by simp [HB.get, h, hc])
noncomputable def mpB (i : Nat) (d : α) (f : V → α) : HB → α := @HB.rec (fun _ => α) d (fun j _ _ ih => @Bool.rec (fun _ => α) ih d (Nat.beq i j)) (fun j _ _ _ _ _ ih => @Bool.rec (fun _ => α) ih d (Nat.beq i j)) (fun j c _ ih => @Bool.rec (fun _ => α) ih (f c) (Nat.beq i j))
theorem mpB_ok {P : α → Prop} {i : Nat} {d : α} {f : V → α} (hd : P d) : ∀ (t : HB), t.ok → (∀ c : V, c.cl.length % 2 = 0 → t.get i = some (.map (prs c.cl)) → P (f c)) → P (mpB i d f t)
  | .nil, _, _ => hd
  | .obj j _ t, ht, hf => by
    show P (ifB (Nat.beq i j) (mpB i d f t) d)
    rw [ifB_beq]
    split
    · exact hd
    · rename_i h; exact mpB_ok hd t ht fun c he hc => hf c he (by simp [HB.get, h, hc])
  | .arr j _ _ _ _ t, ht, hf => by
    show P (ifB (Nat.beq i j) (mpB i d f t) d)
    rw [ifB_beq]
    split
    · exact hd
    · rename_i h; exact mpB_ok hd t ht.2 fun c he hc => hf c he (by simp [HB.get, h, hc])
  | .mp j c t, ht, hf => by
    show P (ifB (Nat.beq i j) (mpB i d f t) (f c))
    rw [ifB_beq]
    split
    · rename_i h; exact hf c ht.1 (by simp [HB.get, h])
    · rename_i h; exact mpB_ok hd t ht.2 fun c he hc => hf c he (by simp [HB.get, h, hc])
end
noncomputable def deB (i : Nat) : HB → HB := @HB.rec (fun _ => HB) .nil (fun j c _ ih => ifB (Nat.beq i j) (.obj j c ih) ih) (fun j nl sz len c _ ih => ifB (Nat.beq i j) (.arr j nl sz len c ih) ih) (fun j c _ ih => ifB (Nat.beq i j) (.mp j c ih) ih)
theorem deB_get (i : Nat) : ∀ (t : HB) (j : Nat), (deB i t).get j = if j = i then none else t.get j
  | .nil, j => by simp [deB, HB.get]
  | .obj k c t, j => by
    show (ifB (Nat.beq i k) (.obj k c (deB i t)) (deB i t)).get j = _
    rw [ifB_beq]
    split
    · rename_i h; subst h; rw [deB_get]; simp only [HB.get]; split <;> rfl
    · rename_i h; simp only [HB.get, deB_get]
      by_cases h1 : j = k
      · subst h1; rw [if_pos rfl, if_neg (fun h2 => h h2.symm), if_pos rfl]
      · rw [if_neg h1, if_neg h1]
  | .arr k nl sz len c t, j => by
    show (ifB (Nat.beq i k) (.arr k nl sz len c (deB i t)) (deB i t)).get j = _
    rw [ifB_beq]
    split
    · rename_i h; subst h; rw [deB_get]; simp only [HB.get]; split <;> rfl
    · rename_i h; simp only [HB.get, deB_get]
      by_cases h1 : j = k
      · subst h1; rw [if_pos rfl, if_neg (fun h2 => h h2.symm), if_pos rfl]
      · rw [if_neg h1, if_neg h1]
  | .mp k c t, j => by
    show (ifB (Nat.beq i k) (.mp k c (deB i t)) (deB i t)).get j = _
    rw [ifB_beq]
    split
    · rename_i h; subst h; rw [deB_get]; simp only [HB.get]; split <;> rfl
    · rename_i h; simp only [HB.get, deB_get]
      by_cases h1 : j = k
      · subst h1; rw [if_pos rfl, if_neg (fun h2 => h h2.symm), if_pos rfl]
      · rw [if_neg h1, if_neg h1]
theorem deB_ok (i : Nat) : ∀ (t : HB), t.ok → (deB i t).ok
  | .nil, _ => trivial
  | .obj k c t, h => by
    show (ifB (Nat.beq i k) (.obj k c (deB i t)) (deB i t)).ok
    rw [ifB_beq]; split <;> exact deB_ok i t h
  | .arr k nl sz len c t, h => by
    show (ifB (Nat.beq i k) (.arr k nl sz len c (deB i t)) (deB i t)).ok
    rw [ifB_beq]; split
    · exact deB_ok i t h.2
    · exact ⟨h.1, deB_ok i t h.2⟩
  | .mp k c t, h => by
    show (ifB (Nat.beq i k) (.mp k c (deB i t)) (deB i t)).ok
    rw [ifB_beq]; split
    · exact deB_ok i t h.2
    · exact ⟨h.1, deB_ok i t h.2⟩

theorem heap_obj (H : ZH) (i : Nat) (c : V) : ZH.heap ⟨H.next, H.ro, .obj i c (deB i H.bl)⟩ = H.heap.put i (some (.obj c.cl)) := by
  simp only [ZH.heap, Heap.put]; congr 1; funext j; simp only [HB.get, deB_get]; split <;> rfl
theorem heap_arr (H : ZH) (i : Nat) (nl : Bool) (sz len : Nat) (c : V) : ZH.heap ⟨H.next, H.ro, .arr i nl sz len c (deB i H.bl)⟩ = H.heap.put i (some (.arr nl sz c.cl)) := by
  simp only [ZH.heap, Heap.put]; congr 1; funext j; simp only [HB.get, deB_get]; split <;> rfl
theorem heap_del (H : ZH) (i : Nat) : ZH.heap ⟨H.next, H.ro, deB i H.bl⟩ = H.heap.put i none := by
  simp only [ZH.heap, Heap.put]; congr 1; funext j; simp only [deB_get]
theorem heap_new_obj (H : ZH) (c : V) : ZH.heap ⟨H.next + 1, H.ro, .obj H.next c H.bl⟩ = H.heap.new (.obj c.cl) := by
  simp only [ZH.heap, Heap.new]; congr 1
theorem heap_new_arr (H : ZH) (nl : Bool) (sz len : Nat) (c : V) : ZH.heap ⟨H.next + 1, H.ro, .arr H.next nl sz len c H.bl⟩ = H.heap.new (.arr nl sz c.cl) := by
  simp only [ZH.heap, Heap.new]; congr 1

theorem heap_mp (H : ZH) (i : Nat) (c : V) : ZH.heap ⟨H.next, H.ro, .mp i c (deB i H.bl)⟩ = H.heap.put i (some (.map (prs c.cl))) := by
  simp only [ZH.heap, Heap.put]; congr 1; funext j; simp only [HB.get, deB_get]; split <;> rfl
theorem heap_new_mp (H : ZH) (c : V) : ZH.heap ⟨H.next + 1, H.ro, .mp H.next c H.bl⟩ = H.heap.new (.map (prs c.cl)) := by
  simp only [ZH.heap, Heap.new]; congr 1

/-! ### what a run answers -/
inductive FR where
  | ret (v : V) (H : ZH)
  | pan (v : V) (H : ZH)
  | bad
/-- what is asked of an answer: nothing, of the one that says nothing -/
structure Pr where
  p : FR → Prop
  bad : p .bad
def Agr (r : FR) (q : Pr) : Prop := q.p r
/-- a call's answer is the small language's -/
def Agf (r : FR) (q : Option CRes) : Prop := match r with
  | .ret v H => q = some (.ret v.av H.heap) ∧ H.ok ∧ v.pv = some v.av
  | .pan v H => q = some (.pan v.av H.heap) ∧ H.ok ∧ v.pv = some v.av
  | .bad => True
def Pr.of (q : Option CRes) : Pr := ⟨fun r => Agf r q, trivial⟩

/-! ### a slots' list, and what is in the slots -/
def E (S : List Nat) : Type := @List.rec Nat (fun _ => Type) PUnit (fun _ _ T => V × T) S
def E.hd {a : Nat} {r : List Nat} (e : E (a :: r)) : V := Prod.fst (α := V) (β := E r) e
def E.tl {a : Nat} {r : List Nat} (e : E (a :: r)) : E r := Prod.snd (α := V) (β := E r) e
def E.cons {r : List Nat} (a : Nat) (v : V) (e : E r) : E (a :: r) := Prod.mk (α := V) (β := E r) v e
def E.none : E [] := PUnit.unit
def getE : (S : List Nat) → E S → Nat → V
  | [], _, _ => .wh
  | a :: r, e, s => if s = a then e.hd else getE r e.tl s
def Rel (S : List Nat) (e : E S) (x : Env) : Prop := ∀ s, (getE S e s).den (x.get s)
theorem rel_cons {S : List Nat} {e : E S} {x : Env} (h : Rel S e x) (a : Nat) {v : V} {s : Sl} (hv : v.den s) : Rel (a :: S) (E.cons a v e) ((a, s) :: x) := by
  intro t
  simp only [getE, Env.get]
  split
  · exact hv
  · exact h t

structure Ac (S : List Nat) where
  run : E S → V
/-- where a slot lies -/
def acc : (S : List Nat) → Nat → Ac S
  | [], _ => ⟨fun _ => .wh⟩
  | [a], s => bif Nat.beq s a then ⟨fun e => Prod.fst (α := V) (β := E []) e⟩ else ⟨fun _ => .wh⟩
  | [a, b], s => bif Nat.beq s a then ⟨fun e => Prod.fst (α := V) (β := E [b]) e⟩ else bif Nat.beq s b then ⟨fun e => Prod.fst (α := V) (β := E []) (Prod.snd (α := V) (β := E [b]) e)⟩ else ⟨fun _ => .wh⟩
  | a :: b :: c :: r, s => bif Nat.beq s a then ⟨fun e => Prod.fst (α := V) (β := E (b :: c :: r)) e⟩ else
      bif Nat.beq s b then ⟨fun e => Prod.fst (α := V) (β := E (c :: r)) (Prod.snd (α := V) (β := E (b :: c :: r)) e)⟩ else
      bif Nat.beq s c then ⟨fun e => Prod.fst (α := V) (β := E r) (Prod.snd (α := V) (β := E (c :: r)) (Prod.snd (α := V) (β := E (b :: c :: r)) e))⟩ else
      ⟨fun e => (acc r s).run (Prod.snd (α := V) (β := E r) (Prod.snd (α := V) (β := E (c :: r)) (Prod.snd (α := V) (β := E (b :: c :: r)) e)))⟩
theorem beq_dec (a b : Nat) : Nat.beq a b = decide (a = b) := by
  cases h : Nat.beq a b with
  | true => simp [Nat.eq_of_beq_eq_true h]
  | false => simp [Nat.ne_of_beq_eq_false h]
theorem acc_eq : ∀ (S : List Nat) (s : Nat) (e : E S), (acc S s).run e = getE S e s
  | [], _, _ => rfl
  | [a], s, e => by
    simp only [acc, getE, beq_dec]
    by_cases h : s = a <;> simp [h] <;> rfl
  | [a, b], s, e => by
    simp only [acc, getE, beq_dec]
    by_cases h : s = a
    · simp [h]; rfl
    · by_cases h2 : s = b
      · subst h2; simp [h]; rfl
      · simp [h, h2]
  | a :: b :: c :: r, s, e => by
    have ih := acc_eq r s
    simp only [acc, getE, beq_dec]
    by_cases h : s = a
    · simp [h]; rfl
    · by_cases h2 : s = b
      · subst h2; simp [h]; rfl
      · by_cases h3 : s = c
        · subst h3; simp [h, h2]; rfl
        · simp [h, h2, h3, ih]; rfl

/-- an operand's value -/
def ofNatI (k : IntKind) (n : Int) : V := match k with
  | .i64 => if -9223372036854775808 ≤ n then .i (n + 9223372036854775808).toNat else .x (.int k n)
  | .u8 => if 0 ≤ n then .u 0 n.toNat else .x (.int k n)
  | .u16 => if 0 ≤ n then .u 1 n.toNat else .x (.int k n)
  | .u32 => if 0 ≤ n then .u 2 n.toNat else .x (.int k n)
  | .u64 => if 0 ≤ n then .u 3 n.toNat else .x (.int k n)
  | k => .x (.int k n)
theorem ofNatI_pv (k : IntKind) (n : Int) : (ofNatI k n).pv = some (.int k n) := by
  cases k <;> simp only [ofNatI] <;> first | rfl | skip
  all_goals
    split
    · rename_i h
      simp only [V.pv, V.av, kk, Option.some.injEq, AV.int.injEq, true_and]
      omega
    · rfl
def packS : List UInt8 → Nat
  | [] => 0
  | c :: s => packS s * 256 + c.toNat
theorem packS_eq : ∀ s : List UInt8, byts s.length (packS s) = s
  | [] => rfl
  | c :: s => by
    have hc : c.toNat < 256 := c.toNat_lt
    simp only [List.length_cons, byts, packS]
    have e1 : (packS s * 256 + c.toNat) % 256 = c.toNat := by omega
    have e2 : (packS s * 256 + c.toNat) / 256 = packS s := by omega
    rw [e1, e2, packS_eq s]
    simp
mutual
noncomputable def ofAV : AV → V
  | .bool b => .b b
  | .int k n => ofNatI k n
  | .str s => .s s.length (packS s)
  | .list nl xs => .li nl (ofL xs)
  | .cap0 => .c0
  | .ms id ver lo len => .ms id ver lo len
  | .imm v => .im (ofAV v)
  | .nilp => .np
  | .ptr id off => .pt id off
  | .ap id ver i off => .ap id ver i off
  | .fn f c => .fn f (ofP c)
  | .nilfn => .nf
  | .iface t v => .fc t (ofAV v)
  | .niliface => .nc
  | .agg cs => .ag (bif Nat.ble 9 cs.length then ofL cs else ofP cs)
  | .tup vs => .tu (ofP vs)
  | v => .x v
noncomputable def ofL : List AV → V
  | [] => .nil
  | v :: r => appC (ofL r) (oneC (ofAV v))
noncomputable def ofP : List AV → V
  | [] => .nil
  | v :: r => .one (ofAV v) (ofP r)
end
mutual
theorem ofAV_pv : ∀ v : AV, (ofAV v).pv = some v ∧ (ofAV v).av = v
  | .undef => ⟨rfl, rfl⟩
  | .bool b => ⟨rfl, rfl⟩
  | .int k n => by simp only [ofAV]; exact ⟨ofNatI_pv k n, (V.pv_sl (ofNatI_pv k n)).2.1⟩
  | .str s => by simp only [ofAV, V.pv, V.av, packS_eq]; exact ⟨trivial, trivial⟩
  | .flt _ _ => ⟨rfl, rfl⟩
  | .list nl xs => by simp only [ofAV, V.pv, V.av, ofL_cl xs]; exact ⟨trivial, trivial⟩
  | .cap0 => ⟨rfl, rfl⟩
  | .ms id ver lo len => ⟨rfl, rfl⟩
  | .imm v => by simp only [ofAV, V.pv, V.av, (ofAV_pv v).2]; exact ⟨trivial, trivial⟩
  | .nilp => ⟨rfl, rfl⟩
  | .ptr id off => ⟨rfl, rfl⟩
  | .ap id ver i off => ⟨rfl, rfl⟩
  | .fn f c => by simp only [ofAV, V.pv, V.av, ofP_cl c]; exact ⟨trivial, trivial⟩
  | .nilfn => ⟨rfl, rfl⟩
  | .iface t v => by simp only [ofAV, V.pv, V.av, (ofAV_pv v).2]; exact ⟨trivial, trivial⟩
  | .niliface => ⟨rfl, rfl⟩
  | .agg cs => by simp only [ofAV, V.pv, V.av]; cases Nat.ble 9 cs.length <;> simp only [cond_true, cond_false, ofL_cl cs, ofP_cl cs] <;> exact ⟨trivial, trivial⟩
  | .tup vs => by simp only [ofAV, V.pv, V.av, ofP_cl vs]; exact ⟨trivial, trivial⟩
  | .mp _ => ⟨rfl, rfl⟩
  | .nilmap => ⟨rfl, rfl⟩
theorem ofL_cl : ∀ l : List AV, (ofL l).cl = l
  | [] => rfl
  | v :: r => by simp only [ofL, appC_eq, oneC_eq, (ofAV_pv v).2, ofL_cl r, List.singleton_append]
theorem ofP_cl : ∀ l : List AV, (ofP l).cl = l
  | [] => rfl
  | v :: r => by simp only [ofP, V.cl, (ofAV_pv v).2, ofP_cl r]
end
/-- the cells of a variable: packed, if they are many -/
noncomputable def ofCs (cs : List AV) : V := bif Nat.ble 9 cs.length then ofL cs else ofP cs
theorem ofCs_cl (cs : List AV) : (ofCs cs).cl = cs := by
  simp only [ofCs]; cases Nat.ble 9 cs.length <;> simp only [cond_true, cond_false, ofL_cl cs, ofP_cl cs]

noncomputable def opd (S : List Nat) : Opd → Ac S
  | .t n => acc S n
  | .k v => ⟨fun _ => ofAV v⟩
def opn : Opd → Nat
  | .t n => n
  | .k _ => 0
theorem opd_val {S : List Nat} {e : E S} {x : Env} (h : Rel S e x) (o : Opd) : ((opd S o).run e).val (x.av o) := by
  intro a ha
  cases o with
  | k v => simp only [opd, (ofAV_pv v).1, Option.some.injEq] at ha; subst ha; rfl
  | t n =>
    simp only [opd, acc_eq] at ha
    have := (V.pv_sl ha).2.2.1 _ (h n)
    simp only [Env.av, Env.sl, this]
theorem opd_dle {S : List Nat} {e : E S} {x : Env} (h : Rel S e x) (o : Opd) : ((opd S o).run e).dle (opn o) (x.sl o) := by
  cases o with
  | k v =>
    have := (ofAV_pv v).1
    simp only [opd, opn, Env.sl]
    revert this
    generalize ofAV v = y
    intro this
    have h1 := (V.pv_sl this).1
    cases y <;> first | (cases this; done) | (cases this; exact rfl)
  | t n =>
    simp only [opd, acc_eq, opn, Env.sl]
    have := h n
    revert this
    generalize getE S e n = y
    intro this
    cases y <;> first | trivial | (simp only [V.den] at this; rw [this]; rfl)
end Ey
