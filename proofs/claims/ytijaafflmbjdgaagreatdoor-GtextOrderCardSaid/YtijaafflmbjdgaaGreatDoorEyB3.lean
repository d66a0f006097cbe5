/- The fast form: what values are told apart by; memory; what a run answers. The destructors are printed by a program of this session. -/
import Derived.Test.YtijaafflmbjdgaaGreatDoorEyB2
namespace Ey
open Go (IntKind FloatKind BinOp UnOp)

/-! ### memory: a tree by the bits of the numbers; what a run answers -/
inductive Bk where
  | no
  | obj (c : V)
  | arr (nl : Bool) (sz len : Nat) (c : V)
  | mp (c : V)
inductive HB where
  | nil
  | nd (b : Bk) (l r : HB)
structure ZH where
  next : Nat
  ro : Nat
  bl : HB
inductive FR where
  | ret (v : V) (H : ZH)
  | pan (v : V) (H : ZH)
  | bad

def V.pv : V → Option AV
  | .nil => none
  | .one _ _ => none
  | .run _ _ _ _ => none
  | .wh => none
  | .no => none
  | .un => none
  | .lv _ => none
  | .lp _ _ => none
  | v => some v.av
def V.val (v : V) (r : Option AV) : Prop := ∀ a, v.pv = some a → r = some a
theorem V.pv_sl {v : V} {a : AV} (h : v.pv = some a) : v.sl = .v a ∧ v.av = a ∧ (∀ s, v.den s → s = .v a) ∧ v.den (.v a) := by
  cases v <;> simp only [V.pv, Option.some.injEq, reduceCtorEq] at h <;> subst h <;> exact ⟨rfl, rfl, fun s hs => hs, rfl⟩

section

noncomputable def iK : V → FR → (Nat → FR) → FR := @V.rec (fun _ => FR → (Nat → FR) → FR) (fun n _ f => f n) (fun _ d _ => d) (fun _ _ d _ => d) (fun _ _ d _ => d) (fun _ d _ => d) (fun _ _ _ d _ => d) (fun d _ => d) (fun _ _ _ _ d _ => d) (fun _ _ d _ => d) (fun d _ => d) (fun _ _ d _ => d) (fun _ _ _ _ d _ => d) (fun _ _ _ d _ => d) (fun d _ => d) (fun _ _ _ d _ => d) (fun d _ => d) (fun _ _ d _ => d) (fun _ _ d _ => d) (fun d _ => d) (fun _ _ _ _ d _ => d) (fun _ _ _ _ _ d _ => d) (fun d _ => d) (fun d _ => d) (fun d _ => d) (fun _ _ d _ => d) (fun _ _ d _ => d)
theorem iK_ok {P : FR → Prop} {v : V} {r : Option AV} (hv : v.val r) {d : FR} {f : Nat → FR} (hd : P d) (hf : ∀ n : Nat, r = some (.int .i64 ((n : Int) - 9223372036854775808)) → P (f n)) : P (iK v d f) := by
  cases v with
  | i n => exact hf n (hv _ rfl)
  | _ => exact hd
noncomputable def uK : V → FR → (Nat → Nat → FR) → FR := @V.rec (fun _ => FR → (Nat → Nat → FR) → FR) (fun _ d _ => d) (fun _ d _ => d) (fun q n _ f => f q n) (fun _ _ d _ => d) (fun _ d _ => d) (fun _ _ _ d _ => d) (fun d _ => d) (fun _ _ _ _ d _ => d) (fun _ _ d _ => d) (fun d _ => d) (fun _ _ d _ => d) (fun _ _ _ _ d _ => d) (fun _ _ _ d _ => d) (fun d _ => d) (fun _ _ _ d _ => d) (fun d _ => d) (fun _ _ d _ => d) (fun _ _ d _ => d) (fun d _ => d) (fun _ _ _ _ d _ => d) (fun _ _ _ _ _ d _ => d) (fun d _ => d) (fun d _ => d) (fun d _ => d) (fun _ _ d _ => d) (fun _ _ d _ => d)
theorem uK_ok {P : FR → Prop} {v : V} {r : Option AV} (hv : v.val r) {d : FR} {f : Nat → Nat → FR} (hd : P d) (hf : ∀ k n : Nat, r = some (.int (kk k) n) → P (f k n)) : P (uK v d f) := by
  cases v with
  | u k n => exact hf k n (hv _ rfl)
  | _ => exact hd
noncomputable def bK : V → FR → FR → FR → FR := @V.rec (fun _ => FR → FR → FR → FR) (fun _ d _ _ => d) (fun x _ t f => @Bool.rec (fun _ => FR) f t x) (fun _ _ d _ _ => d) (fun _ _ d _ _ => d) (fun _ d _ _ => d) (fun _ _ _ d _ _ => d) (fun d _ _ => d) (fun _ _ _ _ d _ _ => d) (fun _ _ d _ _ => d) (fun d _ _ => d) (fun _ _ d _ _ => d) (fun _ _ _ _ d _ _ => d) (fun _ _ _ d _ _ => d) (fun d _ _ => d) (fun _ _ _ d _ _ => d) (fun d _ _ => d) (fun _ _ d _ _ => d) (fun _ _ d _ _ => d) (fun d _ _ => d) (fun _ _ _ _ d _ _ => d) (fun _ _ _ _ _ d _ _ => d) (fun d _ _ => d) (fun d _ _ => d) (fun d _ _ => d) (fun _ _ d _ _ => d) (fun _ _ d _ _ => d)
theorem bK_ok {P : FR → Prop} {v : V} {r : Option AV} (hv : v.val r) {d t f : FR} (hd : P d) (ht : r = some (.bool true) → P t) (hf : r = some (.bool false) → P f) : P (bK v d t f) := by
  cases v with
  | b x => cases x; exact hf (hv _ rfl); exact ht (hv _ rfl)
  | _ => exact hd
noncomputable def boK : V → FR → (Bool → FR) → FR := @V.rec (fun _ => FR → (Bool → FR) → FR) (fun _ d _ => d) (fun x _ f => f x) (fun _ _ d _ => d) (fun _ _ d _ => d) (fun _ d _ => d) (fun _ _ _ d _ => d) (fun d _ => d) (fun _ _ _ _ d _ => d) (fun _ _ d _ => d) (fun d _ => d) (fun _ _ d _ => d) (fun _ _ _ _ d _ => d) (fun _ _ _ d _ => d) (fun d _ => d) (fun _ _ _ d _ => d) (fun d _ => d) (fun _ _ d _ => d) (fun _ _ d _ => d) (fun d _ => d) (fun _ _ _ _ d _ => d) (fun _ _ _ _ _ d _ => d) (fun d _ => d) (fun d _ => d) (fun d _ => d) (fun _ _ d _ => d) (fun _ _ d _ => d)
theorem boK_ok {P : FR → Prop} {v : V} {r : Option AV} (hv : v.val r) {d : FR} {f : Bool → FR} (hd : P d) (hf : ∀ x, r = some (.bool x) → P (f x)) : P (boK v d f) := by
  cases v with
  | b x => exact hf x (hv _ rfl)
  | _ => exact hd
noncomputable def sK : V → FR → (Nat → Nat → FR) → FR := @V.rec (fun _ => FR → (Nat → Nat → FR) → FR) (fun _ d _ => d) (fun _ d _ => d) (fun _ _ d _ => d) (fun l n _ f => f l n) (fun _ d _ => d) (fun _ _ _ d _ => d) (fun d _ => d) (fun _ _ _ _ d _ => d) (fun _ _ d _ => d) (fun d _ => d) (fun _ _ d _ => d) (fun _ _ _ _ d _ => d) (fun _ _ _ d _ => d) (fun d _ => d) (fun _ _ _ d _ => d) (fun d _ => d) (fun _ _ d _ => d) (fun _ _ d _ => d) (fun d _ => d) (fun _ _ _ _ d _ => d) (fun _ _ _ _ _ d _ => d) (fun d _ => d) (fun d _ => d) (fun d _ => d) (fun _ _ d _ => d) (fun _ _ d _ => d)
theorem sK_ok {P : FR → Prop} {v : V} {r : Option AV} (hv : v.val r) {d : FR} {f : Nat → Nat → FR} (hd : P d) (hf : ∀ l n : Nat, r = some (.str (byts l n)) → P (f l n)) : P (sK v d f) := by
  cases v with
  | s l n => exact hf l n (hv _ rfl)
  | _ => exact hd
noncomputable def numK : V → FR → (Nat → FR) → (Nat → Nat → FR) → (Nat → Nat → FR) → FR := @V.rec (fun _ => FR → (Nat → FR) → (Nat → Nat → FR) → (Nat → Nat → FR) → FR) (fun n _ fi _ _ => fi n) (fun _ d _ _ _ => d) (fun q n _ _ fu _ => fu q n) (fun l n _ _ _ fs => fs l n) (fun _ d _ _ _ => d) (fun _ _ _ d _ _ _ => d) (fun d _ _ _ => d) (fun _ _ _ _ d _ _ _ => d) (fun _ _ d _ _ _ => d) (fun d _ _ _ => d) (fun _ _ d _ _ _ => d) (fun _ _ _ _ d _ _ _ => d) (fun _ _ _ d _ _ _ => d) (fun d _ _ _ => d) (fun _ _ _ d _ _ _ => d) (fun d _ _ _ => d) (fun _ _ d _ _ _ => d) (fun _ _ d _ _ _ => d) (fun d _ _ _ => d) (fun _ _ _ _ d _ _ _ => d) (fun _ _ _ _ _ d _ _ _ => d) (fun d _ _ _ => d) (fun d _ _ _ => d) (fun d _ _ _ => d) (fun _ _ d _ _ _ => d) (fun _ _ d _ _ _ => d)
theorem numK_ok {P : FR → Prop} {v : V} {r : Option AV} (hv : v.val r) {d : FR} {fi : Nat → FR} {fu fs : Nat → Nat → FR} (hd : P d) (hi : ∀ n : Nat, r = some (.int .i64 ((n : Int) - 9223372036854775808)) → P (fi n)) (hu : ∀ k n : Nat, r = some (.int (kk k) n) → P (fu k n)) (hs : ∀ l n : Nat, r = some (.str (byts l n)) → P (fs l n)) : P (numK v d fi fu fs) := by
  cases v with
  | i n => exact hi n (hv _ rfl)
  | u k n => exact hu k n (hv _ rfl)
  | s l n => exact hs l n (hv _ rfl)
  | _ => exact hd
noncomputable def slcK' : V → FR → (Bool → V → FR) → FR → (Nat → Nat → Nat → Nat → FR) → FR := @V.rec (fun _ => FR → (Bool → V → FR) → FR → (Nat → Nat → Nat → Nat → FR) → FR) (fun _ d _ _ _ => d) (fun _ d _ _ _ => d) (fun _ _ d _ _ _ => d) (fun _ _ d _ _ _ => d) (fun _ d _ _ _ => d) (fun nl c _ _ fl _ _ => fl nl c) (fun _ _ fc _ => fc) (fun id ver lo len _ _ _ fm => fm id ver lo len) (fun _ _ d _ _ _ => d) (fun d _ _ _ => d) (fun _ _ d _ _ _ => d) (fun _ _ _ _ d _ _ _ => d) (fun _ _ _ d _ _ _ => d) (fun d _ _ _ => d) (fun _ _ _ d _ _ _ => d) (fun d _ _ _ => d) (fun _ _ d _ _ _ => d) (fun _ _ d _ _ _ => d) (fun d _ _ _ => d) (fun _ _ _ _ d _ _ _ => d) (fun _ _ _ _ _ d _ _ _ => d) (fun d _ _ _ => d) (fun d _ _ _ => d) (fun d _ _ _ => d) (fun _ _ d _ _ _ => d) (fun _ _ d _ _ _ => d)
theorem slcK'_ok {P : FR → Prop} {v : V} {r : Option AV} (hv : v.val r) {d : FR} {fl : Bool → V → FR} {fc : FR} {fm : Nat → Nat → Nat → Nat → FR} (hd : P d) (hl : ∀ nl c, r = some (.list nl c.cl) → P (fl nl c)) (hc : r = some .cap0 → P fc) (hm : ∀ id ver lo len, r = some (.ms id ver lo len) → P (fm id ver lo len)) : P (slcK' v d fl fc fm) := by
  cases v with
  | li nl c => exact hl nl c (hv _ rfl)
  | c0 => exact hc (hv _ rfl)
  | ms id ver lo len => exact hm id ver lo len (hv _ rfl)
  | _ => exact hd
noncomputable def agK : V → FR → (V → FR) → FR := @V.rec (fun _ => FR → (V → FR) → FR) (fun _ d _ => d) (fun _ d _ => d) (fun _ _ d _ => d) (fun _ _ d _ => d) (fun _ d _ => d) (fun _ _ _ d _ => d) (fun d _ => d) (fun _ _ _ _ d _ => d) (fun _ _ d _ => d) (fun d _ => d) (fun _ _ d _ => d) (fun _ _ _ _ d _ => d) (fun _ _ _ d _ => d) (fun d _ => d) (fun _ _ _ d _ => d) (fun d _ => d) (fun c _ _ f => f c) (fun _ _ d _ => d) (fun d _ => d) (fun _ _ _ _ d _ => d) (fun _ _ _ _ _ d _ => d) (fun d _ => d) (fun d _ => d) (fun d _ => d) (fun _ _ d _ => d) (fun _ _ d _ => d)
theorem agK_ok {P : FR → Prop} {v : V} {r : Option AV} (hv : v.val r) {d : FR} {f : V → FR} (hd : P d) (hf : ∀ c, r = some (.agg c.cl) → P (f c)) : P (agK v d f) := by
  cases v with
  | ag c => exact hf c (hv _ rfl)
  | _ => exact hd
noncomputable def tuK : V → FR → (V → FR) → FR := @V.rec (fun _ => FR → (V → FR) → FR) (fun _ d _ => d) (fun _ d _ => d) (fun _ _ d _ => d) (fun _ _ d _ => d) (fun _ d _ => d) (fun _ _ _ d _ => d) (fun d _ => d) (fun _ _ _ _ d _ => d) (fun _ _ d _ => d) (fun d _ => d) (fun _ _ d _ => d) (fun _ _ _ _ d _ => d) (fun _ _ _ d _ => d) (fun d _ => d) (fun _ _ _ d _ => d) (fun d _ => d) (fun _ _ d _ => d) (fun c _ _ f => f c) (fun d _ => d) (fun _ _ _ _ d _ => d) (fun _ _ _ _ _ d _ => d) (fun d _ => d) (fun d _ => d) (fun d _ => d) (fun _ _ d _ => d) (fun _ _ d _ => d)
theorem tuK_ok {P : FR → Prop} {v : V} {r : Option AV} (hv : v.val r) {d : FR} {f : V → FR} (hd : P d) (hf : ∀ c, r = some (.tup c.cl) → P (f c)) : P (tuK v d f) := by
  cases v with
  | tu c => exact hf c (hv _ rfl)
  | _ => exact hd
noncomputable def imK : V → FR → (V → FR) → FR := @V.rec (fun _ => FR → (V → FR) → FR) (fun _ d _ => d) (fun _ d _ => d) (fun _ _ d _ => d) (fun _ _ d _ => d) (fun _ d _ => d) (fun _ _ _ d _ => d) (fun d _ => d) (fun _ _ _ _ d _ => d) (fun y _ _ f => f y) (fun d _ => d) (fun _ _ d _ => d) (fun _ _ _ _ d _ => d) (fun _ _ _ d _ => d) (fun d _ => d) (fun _ _ _ d _ => d) (fun d _ => d) (fun _ _ d _ => d) (fun _ _ d _ => d) (fun d _ => d) (fun _ _ _ _ d _ => d) (fun _ _ _ _ _ d _ => d) (fun d _ => d) (fun d _ => d) (fun d _ => d) (fun _ _ d _ => d) (fun _ _ d _ => d)
theorem imK_ok {P : FR → Prop} {v : V} {r : Option AV} (hv : v.val r) {d : FR} {f : V → FR} (hd : P d) (hf : ∀ c, r = some (.imm c.av) → P (f c)) : P (imK v d f) := by
  cases v with
  | im c => exact hf c (hv _ rfl)
  | _ => exact hd
noncomputable def fnK' : V → FR → (Nat → V → FR) → FR := @V.rec (fun _ => FR → (Nat → V → FR) → FR) (fun _ d _ => d) (fun _ d _ => d) (fun _ _ d _ => d) (fun _ _ d _ => d) (fun _ d _ => d) (fun _ _ _ d _ => d) (fun d _ => d) (fun _ _ _ _ d _ => d) (fun _ _ d _ => d) (fun d _ => d) (fun _ _ d _ => d) (fun _ _ _ _ d _ => d) (fun g c _ _ f => f g c) (fun d _ => d) (fun _ _ _ d _ => d) (fun d _ => d) (fun _ _ d _ => d) (fun _ _ d _ => d) (fun d _ => d) (fun _ _ _ _ d _ => d) (fun _ _ _ _ _ d _ => d) (fun d _ => d) (fun d _ => d) (fun d _ => d) (fun _ _ d _ => d) (fun _ _ d _ => d)
theorem fnK'_ok {P : FR → Prop} {v : V} {r : Option AV} (hv : v.val r) {d : FR} {f : Nat → V → FR} (hd : P d) (hf : ∀ g c, r = some (.fn g c.cl) → P (f g c)) : P (fnK' v d f) := by
  cases v with
  | fn g c => exact hf g c (hv _ rfl)
  | _ => exact hd
noncomputable def fcK : V → FR → (Nat → V → FR) → FR → FR := @V.rec (fun _ => FR → (Nat → V → FR) → FR → FR) (fun _ d _ _ => d) (fun _ d _ _ => d) (fun _ _ d _ _ => d) (fun _ _ d _ _ => d) (fun _ d _ _ => d) (fun _ _ _ d _ _ => d) (fun d _ _ => d) (fun _ _ _ _ d _ _ => d) (fun _ _ d _ _ => d) (fun d _ _ => d) (fun _ _ d _ _ => d) (fun _ _ _ _ d _ _ => d) (fun _ _ _ d _ _ => d) (fun d _ _ => d) (fun t y _ _ f _ => f t y) (fun _ _ z => z) (fun _ _ d _ _ => d) (fun _ _ d _ _ => d) (fun d _ _ => d) (fun _ _ _ _ d _ _ => d) (fun _ _ _ _ _ d _ _ => d) (fun d _ _ => d) (fun d _ _ => d) (fun d _ _ => d) (fun _ _ d _ _ => d) (fun _ _ d _ _ => d)
theorem fcK_ok {P : FR → Prop} {v : V} {r : Option AV} (hv : v.val r) {d : FR} {f : Nat → V → FR} {z : FR} (hd : P d) (hf : ∀ t x, r = some (.iface t x.av) → P (f t x)) (hz : r = some .niliface → P z) : P (fcK v d f z) := by
  cases v with
  | fc t x => exact hf t x (hv _ rfl)
  | nc => exact hz (hv _ rfl)
  | _ => exact hd
noncomputable def vK : V → FR → FR → FR := @V.rec (fun _ => FR → FR → FR) (fun _ _ k => k) (fun _ _ k => k) (fun _ _ _ k => k) (fun _ _ _ k => k) (fun _ _ k => k) (fun _ _ _ _ k => k) (fun _ k => k) (fun _ _ _ _ _ k => k) (fun _ _ _ k => k) (fun _ k => k) (fun _ _ _ k => k) (fun _ _ _ _ _ k => k) (fun _ _ _ _ k => k) (fun _ k => k) (fun _ _ _ _ k => k) (fun _ k => k) (fun _ _ _ k => k) (fun _ _ _ k => k) (fun d _ => d) (fun _ _ _ _ d _ => d) (fun _ _ _ _ _ d _ => d) (fun d _ => d) (fun d _ => d) (fun d _ => d) (fun _ _ d _ => d) (fun _ _ d _ => d)
theorem vK_ok {P : FR → Prop} {v : V} {d k : FR} (hd : P d) (hk : v.pv = some v.av → P k) : P (vK v d k) := by
  cases v <;> first | exact hk rfl | exact hd
noncomputable def keK : V → (V → FR) → FR := @V.rec (fun _ => (V → FR) → FR) (fun n k => k (.i n)) (fun x k => k (.b x)) (fun q n k => k (.u q n)) (fun l n k => k (.s l n)) (fun y k => k (.x y)) (fun nl c _ k => k (.li nl c)) (fun k => k (.c0)) (fun id ver lo len k => k (.ms id ver lo len)) (fun y _ k => k (.im y)) (fun k => k (.np)) (fun id o1 k => k (.pt id o1)) (fun id ver i o1 k => k (.ap id ver i o1)) (fun g c _ k => k (.fn g c)) (fun k => k (.nf)) (fun t y _ k => k (.fc t y)) (fun k => k (.nc)) (fun c _ k => k (.ag c)) (fun c _ k => k (.tu c)) (fun k => k (.nil)) (fun h t _ _ k => k (.one h t)) (fun q l n t _ k => k (.run q l n t)) (fun k => k (.wh)) (fun k => k (.no)) (fun k => k (.un)) (fun c _ k => k (.lv c)) (fun _ _ k => k .no)
theorem keK_ok {P : FR → Prop} {v : V} {k : V → FR} (h : ∀ w, (∀ s, v.den s → w.den (match s with | .lp _ _ => .no | x => x)) → P (k w)) : P (keK v k) := by
  cases v <;> first | exact h _ (fun s hs => trivial) | exact h _ (fun s hs => by cases hs; rfl)
def V.sle (n : Nat) (v : V) : Sl := match v with
  | .lv _ => .lp n 0
  | v => v.sl
def V.dle (n : Nat) (v : V) (t : Sl) : Prop := match v with
  | .wh => True
  | v => t = v.sle n
noncomputable def mvKc : V → V → Nat → FR → (V → FR) → FR := @V.rec (fun _ => V → Nat → FR → (V → FR) → FR) (fun _ v _ _ k => k v) (fun _ v _ _ k => k v) (fun _ _ v _ _ k => k v) (fun _ _ v _ _ k => k v) (fun _ v _ _ k => k v) (fun _ _ _ v _ _ k => k v) (fun v _ _ k => k v) (fun _ _ _ _ v _ _ k => k v) (fun _ _ v _ _ k => k v) (fun v _ _ k => k v) (fun _ _ v _ _ k => k v) (fun _ _ _ _ v _ _ k => k v) (fun _ _ _ v _ _ k => k v) (fun v _ _ k => k v) (fun _ _ _ v _ _ k => k v) (fun v _ _ k => k v) (fun _ _ v _ _ k => k v) (fun _ _ v _ _ k => k v) (fun _ _ d _ => d) (fun _ _ _ _ _ _ d _ => d) (fun _ _ _ _ _ _ _ d _ => d) (fun _ _ d _ => d) (fun _ _ d _ => d) (fun _ _ d _ => d) (fun _ _ _ n _ k => k (.lp n 0)) (fun _ _ v _ _ k => k v)
noncomputable def mvK (n : Nat) (v : V) (d : FR) (k : V → FR) : FR := mvKc v v n d k
theorem mvK_ok {P : FR → Prop} {n : Nat} {v : V} {s : Sl} (hv : v.dle n s) {d : FR} {k : V → FR} (hd : P d) (h : ∀ w, w.den s → (match s with | .v y => some (Sl.v y) | .lp s o => some (.lp s o) | _ => none) = some s → P (k w)) : P (mvK n v d k) := by
  cases v <;> first | exact hd | (obtain rfl : s = _ := hv; exact h _ rfl rfl)
noncomputable def adKc : V → Nat → FR → (Nat → Nat → FR) → (V → FR) → (Nat → Nat → FR) → (Nat → Nat → Nat → Nat → FR) → FR := @V.rec (fun _ => Nat → FR → (Nat → Nat → FR) → (V → FR) → (Nat → Nat → FR) → (Nat → Nat → Nat → Nat → FR) → FR) (fun _ _ d _ _ _ _ => d) (fun _ _ d _ _ _ _ => d) (fun _ _ _ d _ _ _ _ => d) (fun _ _ _ d _ _ _ _ => d) (fun _ _ d _ _ _ _ => d) (fun _ _ _ _ d _ _ _ _ => d) (fun _ d _ _ _ _ => d) (fun _ _ _ _ _ d _ _ _ _ => d) (fun y _ _ _ _ fi _ _ => fi y) (fun _ d _ _ _ _ => d) (fun id o1 _ _ _ _ fp _ => fp id o1) (fun id ver i o1 _ _ _ _ _ fa => fa id ver i o1) (fun _ _ _ _ d _ _ _ _ => d) (fun _ d _ _ _ _ => d) (fun _ _ _ _ d _ _ _ _ => d) (fun _ d _ _ _ _ => d) (fun _ _ _ d _ _ _ _ => d) (fun _ _ _ d _ _ _ _ => d) (fun _ d _ _ _ _ => d) (fun _ _ _ _ _ d _ _ _ _ => d) (fun _ _ _ _ _ _ d _ _ _ _ => d) (fun _ d _ _ _ _ => d) (fun _ d _ _ _ _ => d) (fun _ d _ _ _ _ => d) (fun _ _ n _ fl _ _ _ => fl n 0) (fun s o _ _ fl _ _ _ => fl s o)
noncomputable def adK (n : Nat) (v : V) (d : FR) (fl : Nat → Nat → FR) (fi : V → FR) (fp : Nat → Nat → FR) (fa : Nat → Nat → Nat → Nat → FR) : FR := adKc v n d fl fi fp fa
theorem adK_ok {P : FR → Prop} {n : Nat} {v : V} {s : Sl} (hv : v.dle n s) {d : FR} {fl : Nat → Nat → FR} {fi : V → FR} {fp : Nat → Nat → FR} {fa : Nat → Nat → Nat → Nat → FR} (hd : P d)
    (hl : ∀ t o, s = .lp t o → P (fl t o)) (hi : ∀ x, s = .v (.imm x.av) → P (fi x)) (hp : ∀ i o, s = .v (.ptr i o) → P (fp i o)) (ha : ∀ i w j o, s = .v (.ap i w j o) → P (fa i w j o)) : P (adK n v d fl fi fp fa) := by
  cases v with
  | lv c => exact hl _ _ hv
  | lp t o => exact hl _ _ hv
  | im x => exact hi _ hv
  | pt i o => exact hp _ _ hv
  | ap i w j o => exact ha _ _ _ _ hv
  | _ => exact hd
noncomputable def lvK' : V → FR → (V → FR) → FR := @V.rec (fun _ => FR → (V → FR) → FR) (fun _ d _ => d) (fun _ d _ => d) (fun _ _ d _ => d) (fun _ _ d _ => d) (fun _ d _ => d) (fun _ _ _ d _ => d) (fun d _ => d) (fun _ _ _ _ d _ => d) (fun _ _ d _ => d) (fun d _ => d) (fun _ _ d _ => d) (fun _ _ _ _ d _ => d) (fun _ _ _ d _ => d) (fun d _ => d) (fun _ _ _ d _ => d) (fun d _ => d) (fun _ _ d _ => d) (fun _ _ d _ => d) (fun d _ => d) (fun _ _ _ _ d _ => d) (fun _ _ _ _ _ d _ => d) (fun d _ => d) (fun d _ => d) (fun d _ => d) (fun c _ _ f => f c) (fun _ _ d _ => d)
theorem lvK'_ok {P : FR → Prop} {v : V} {s : Sl} (hv : v.den s) {d : FR} {f : V → FR} (hd : P d) (hf : ∀ c, s = .lv c.cl → P (f c)) : P (lvK' v d f) := by
  cases v with
  | lv c => exact hf c hv
  | _ => exact hd
noncomputable def nlK : V → FR → FR → FR := @V.rec (fun _ => FR → FR → FR) (fun _ _ k => k) (fun _ _ k => k) (fun _ _ _ k => k) (fun _ _ _ k => k) (fun _ _ k => k) (fun _ _ _ _ k => k) (fun _ k => k) (fun _ _ _ _ _ k => k) (fun _ _ _ k => k) (fun _ k => k) (fun _ _ _ k => k) (fun _ _ _ _ _ k => k) (fun _ _ _ _ k => k) (fun _ k => k) (fun _ _ _ _ k => k) (fun _ k => k) (fun _ _ _ k => k) (fun _ _ _ k => k) (fun d _ => d) (fun _ _ _ _ d _ => d) (fun _ _ _ _ _ d _ => d) (fun d _ => d) (fun _ k => k) (fun _ k => k) (fun _ _ d _ => d) (fun _ _ _ k => k)
theorem nlK_ok {P : FR → Prop} {v : V} {s : Sl} (hv : v.den s) {d k : FR} (hd : P d) (hk : (∀ c, s ≠ .lv c) → P k) : P (nlK v d k) := by
  cases v <;> first | exact hd | (obtain rfl : s = _ := hv; exact hk (fun c h => by cases h))
noncomputable def guK : V → Bool → FR → FR → FR → FR := @V.rec (fun _ => Bool → FR → FR → FR → FR) (fun _ _ d _ _ => d) (fun x want _ k s => @Bool.rec (fun _ => FR) (@Bool.rec (fun _ => FR) k s want) (@Bool.rec (fun _ => FR) s k want) x) (fun _ _ _ d _ _ => d) (fun _ _ _ d _ _ => d) (fun _ _ d _ _ => d) (fun _ _ _ _ d _ _ => d) (fun _ d _ _ => d) (fun _ _ _ _ _ d _ _ => d) (fun _ _ _ d _ _ => d) (fun _ d _ _ => d) (fun _ _ _ d _ _ => d) (fun _ _ _ _ _ d _ _ => d) (fun _ _ _ _ d _ _ => d) (fun _ d _ _ => d) (fun _ _ _ _ d _ _ => d) (fun _ d _ _ => d) (fun _ _ _ d _ _ => d) (fun _ _ _ d _ _ => d) (fun _ d _ _ => d) (fun _ _ _ _ _ d _ _ => d) (fun _ _ _ _ _ _ d _ _ => d) (fun _ d _ _ => d) (fun _ d _ _ => d) (fun _ _ _ s => s) (fun _ _ _ d _ _ => d) (fun _ _ _ d _ _ => d)
def guS (sl : Sl) (want : Bool) : Option Bool := match sl with
  | .v (.bool b) => some (b == want)
  | .un => some false
  | _ => none
theorem guK_ok {P : FR → Prop} {v : V} {sl : Sl} (hv : v.den sl) {want : Bool} {d k s : FR} (hd : P d) (hk : guS sl want = some true → P k) (hs : guS sl want = some false → P s) : P (guK v want d k s) := by
  cases v with
  | b x => obtain rfl : sl = _ := hv; cases x <;> cases want <;> first | exact hk rfl | exact hs rfl
  | un => obtain rfl : sl = _ := hv; exact hs rfl
  | _ => exact hd
noncomputable def npK : V → FR → FR → FR → FR := @V.rec (fun _ => FR → FR → FR → FR) (fun _ d _ _ => d) (fun _ d _ _ => d) (fun _ _ d _ _ => d) (fun _ _ d _ _ => d) (fun _ d _ _ => d) (fun _ _ _ d _ _ => d) (fun d _ _ => d) (fun _ _ _ _ d _ _ => d) (fun _ _ _ _ n => n) (fun _ z _ => z) (fun _ _ _ _ n => n) (fun _ _ _ _ _ _ n => n) (fun _ _ _ d _ _ => d) (fun d _ _ => d) (fun _ _ _ d _ _ => d) (fun d _ _ => d) (fun _ _ d _ _ => d) (fun _ _ d _ _ => d) (fun d _ _ => d) (fun _ _ _ _ d _ _ => d) (fun _ _ _ _ _ d _ _ => d) (fun d _ _ => d) (fun d _ _ => d) (fun d _ _ => d) (fun _ _ d _ _ => d) (fun _ _ d _ _ => d)
theorem npK_ok {P : FR → Prop} {v : V} {r : Option AV} (hv : v.val r) {d z n : FR} (hd : P d) (hz : r = some .nilp → P z) (hn : (∃ y, r = some (.imm y)) ∨ (∃ i o, r = some (.ptr i o)) ∨ (∃ i w j o, r = some (.ap i w j o)) → P n) : P (npK v d z n) := by
  cases v with
  | np => exact hz (hv _ rfl)
  | im y => exact hn (.inl ⟨_, hv _ rfl⟩)
  | pt i o => exact hn (.inr (.inl ⟨_, _, hv _ rfl⟩))
  | ap i w j o => exact hn (.inr (.inr ⟨_, _, _, _, hv _ rfl⟩))
  | _ => exact hd
noncomputable def nfK : V → FR → FR → FR → FR := @V.rec (fun _ => FR → FR → FR → FR) (fun _ d _ _ => d) (fun _ d _ _ => d) (fun _ _ d _ _ => d) (fun _ _ d _ _ => d) (fun _ d _ _ => d) (fun _ _ _ d _ _ => d) (fun d _ _ => d) (fun _ _ _ _ d _ _ => d) (fun _ _ d _ _ => d) (fun d _ _ => d) (fun _ _ d _ _ => d) (fun _ _ _ _ d _ _ => d) (fun _ _ _ _ _ n => n) (fun _ z _ => z) (fun _ _ _ d _ _ => d) (fun d _ _ => d) (fun _ _ d _ _ => d) (fun _ _ d _ _ => d) (fun d _ _ => d) (fun _ _ _ _ d _ _ => d) (fun _ _ _ _ _ d _ _ => d) (fun d _ _ => d) (fun d _ _ => d) (fun d _ _ => d) (fun _ _ d _ _ => d) (fun _ _ d _ _ => d)
theorem nfK_ok {P : FR → Prop} {v : V} {r : Option AV} (hv : v.val r) {d z n : FR} (hd : P d) (hz : r = some .nilfn → P z) (hn : (∃ g c, r = some (.fn g c)) → P n) : P (nfK v d z n) := by
  cases v with
  | nf => exact hz (hv _ rfl)
  | fn g c => exact hn ⟨_, _, hv _ rfl⟩
  | _ => exact hd
noncomputable def ncmKc : V → V → Nat → FR → (V → FR) → FR := @V.rec (fun _ => V → Nat → FR → (V → FR) → FR) (fun _ _ _ d _ => d) (fun _ _ _ d _ => d) (fun _ _ _ _ d _ => d) (fun _ _ _ _ d _ => d) (fun _ _ _ d _ => d) (fun _ _ _ _ _ d _ => d) (fun _ _ d _ => d) (fun _ _ _ _ _ _ d _ => d) (fun _ _ v _ _ k => k v) (fun _ _ d _ => d) (fun _ _ v _ _ k => k v) (fun _ _ _ _ v _ _ k => k v) (fun _ _ _ v _ _ k => k v) (fun _ _ d _ => d) (fun _ _ _ _ _ d _ => d) (fun _ _ d _ => d) (fun _ _ _ _ d _ => d) (fun _ _ _ _ d _ => d) (fun _ _ d _ => d) (fun _ _ _ _ _ _ d _ => d) (fun _ _ _ _ _ _ _ d _ => d) (fun _ _ d _ => d) (fun _ _ d _ => d) (fun _ _ d _ => d) (fun _ _ _ n _ k => k (.lp n 0)) (fun _ _ v _ _ k => k v)
noncomputable def ncmK (n : Nat) (v : V) (d : FR) (k : V → FR) : FR := ncmKc v v n d k
theorem ncmK_ok {P : FR → Prop} {n : Nat} {v : V} {s : Sl} (hv : v.dle n s) {d : FR} {k : V → FR} (hd : P d) (h : ∀ w, w.den s → (match s with
    | .lp s o => some (Sl.lp s o)
    | .v (.imm y) => some (.v (.imm y))
    | .v (.ptr id o) => some (.v (.ptr id o))
    | .v (.ap id ver i o) => some (.v (.ap id ver i o))
    | .v (.fn f c) => some (.v (.fn f c))
    | _ => none) = some s → P (k w)) : P (ncmK n v d k) := by
  cases v <;> first | exact hd | (obtain rfl : s = _ := hv; exact h _ rfl rfl)
noncomputable def unK : V → FR → (V → V → FR) → FR := @V.rec (fun _ => FR → (V → V → FR) → FR) (fun _ d _ => d) (fun _ d _ => d) (fun _ _ d _ => d) (fun _ _ d _ => d) (fun _ d _ => d) (fun _ _ _ d _ => d) (fun d _ => d) (fun _ _ _ _ d _ => d) (fun _ _ d _ => d) (fun d _ => d) (fun _ _ d _ => d) (fun _ _ _ _ d _ => d) (fun _ _ _ d _ => d) (fun d _ => d) (fun _ _ _ d _ => d) (fun d _ => d) (fun _ _ d _ => d) (fun _ _ d _ => d) (fun d _ => d) (fun h t _ _ _ f => f h t) (fun _ _ _ _ _ d _ => d) (fun d _ => d) (fun d _ => d) (fun d _ => d) (fun _ _ d _ => d) (fun _ _ d _ => d)
theorem unK_ok {P : FR → Prop} {v : V} {d : FR} {f : V → V → FR} (hd : P d) (hf : ∀ h t, v = .one h t → P (f h t)) : P (unK v d f) := by
  cases v with
  | one h t => exact hf h t rfl
  | _ => exact hd
noncomputable def nxK : V → FR → FR → FR := @V.rec (fun _ => FR → FR → FR) (fun _ d _ => d) (fun _ d _ => d) (fun _ _ d _ => d) (fun _ _ d _ => d) (fun _ d _ => d) (fun _ _ _ d _ => d) (fun d _ => d) (fun _ _ _ _ d _ => d) (fun _ _ d _ => d) (fun d _ => d) (fun _ _ d _ => d) (fun _ _ _ _ d _ => d) (fun _ _ _ d _ => d) (fun d _ => d) (fun _ _ _ d _ => d) (fun d _ => d) (fun _ _ d _ => d) (fun _ _ d _ => d) (fun _ k => k) (fun _ _ _ _ d _ => d) (fun _ _ _ _ _ d _ => d) (fun d _ => d) (fun d _ => d) (fun d _ => d) (fun _ _ d _ => d) (fun _ _ d _ => d)
theorem nxK_ok {P : FR → Prop} {v : V} {d k : FR} (hd : P d) (hk : v = .nil → P k) : P (nxK v d k) := by
  cases v with
  | nil => exact hk rfl
  | _ => exact hd
noncomputable def oneA (v : AV) : Bool := @AV.casesOn (fun _ => Bool) v false (fun _ => true) (fun _ _ => true) (fun _ => true) (fun _ _ => true) (fun _ _ => true) true (fun _ _ _ _ => true) (fun _ => true) true (fun _ _ => true) (fun _ _ _ _ => true) (fun _ _ => true) true (fun _ _ => true) true (fun _ => false) (fun _ => false) (fun _ => true) true
theorem oneA_cells {v : AV} (h : oneA v = true) : v.cells = [v] ∧ v.one = true := by cases v <;> first | exact ⟨rfl, rfl⟩ | cases h
theorem ifB_ok {α : Type} {P : α → Prop} {c : Bool} {d k : α} (hd : P d) (hk : c = true → P k) : P (ifB c d k) := by
  cases c; exact hd; exact hk rfl
noncomputable def ceKc : V → V → FR → (V → FR) → FR := @V.rec (fun _ => V → FR → (V → FR) → FR) (fun _ v _ f => f (.one v .nil)) (fun _ v _ f => f (.one v .nil)) (fun _ _ v _ f => f (.one v .nil)) (fun _ _ v _ f => f (.one v .nil)) (fun y v d f => ifB (oneA y) d (f (.one v .nil))) (fun _ _ _ v _ f => f (.one v .nil)) (fun v _ f => f (.one v .nil)) (fun _ _ _ _ v _ f => f (.one v .nil)) (fun _ _ v _ f => f (.one v .nil)) (fun v _ f => f (.one v .nil)) (fun _ _ v _ f => f (.one v .nil)) (fun _ _ _ _ v _ f => f (.one v .nil)) (fun _ _ _ v _ f => f (.one v .nil)) (fun v _ f => f (.one v .nil)) (fun _ _ _ v _ f => f (.one v .nil)) (fun v _ f => f (.one v .nil)) (fun c _ _ _ f => f c) (fun _ _ _ _ f => f .nil) (fun _ d _ => d) (fun _ _ _ _ _ d _ => d) (fun _ _ _ _ _ _ d _ => d) (fun _ d _ => d) (fun _ d _ => d) (fun _ d _ => d) (fun _ _ _ d _ => d) (fun _ _ _ d _ => d)
noncomputable def ceK (v : V) (d : FR) (f : V → FR) : FR := ceKc v v d f
theorem ceK_ok' {P : FR → Prop} {v : V} {d : FR} {f : V → FR} (hd : P d) (hf : ∀ c : V, v.pv = some v.av → c.cl = v.av.cells → ((∃ u, v = .ag u) ∨ ∀ l, v.av ≠ .agg l) → P (f c)) : P (ceK v d f) := by
  cases v with
  | x v0 =>
    refine ifB_ok (P := P) hd fun h => hf _ rfl ?_ (.inr fun l hl => ?_)
    · simp only [V.cl, V.av, (oneA_cells h).1]
    · simp only [V.av] at hl; subst hl; cases h
  | ag c => exact hf _ rfl rfl (.inl ⟨c, rfl⟩)
  | tu c => exact hf _ rfl rfl (.inr fun l h => by cases h)
  | nil => exact hd
  | one h t => exact hd
  | run k l n t => exact hd
  | wh => exact hd
  | no => exact hd
  | un => exact hd
  | lv c => exact hd
  | lp s o => exact hd
  | _ => exact hf _ rfl rfl (.inr fun l h => by cases h)
theorem ceK_ok {P : FR → Prop} {v : V} {d : FR} {f : V → FR} (hd : P d) (hf : ∀ c : V, v.pv = some v.av → c.cl = v.av.cells → P (f c)) : P (ceK v d f) :=
  ceK_ok' hd fun c h1 h2 _ => hf c h1 h2
noncomputable def onK : V → FR → FR → FR := @V.rec (fun _ => FR → FR → FR) (fun _ _ k => k) (fun _ _ k => k) (fun _ _ _ k => k) (fun _ _ _ k => k) (fun y d k => ifB (oneA y) d k) (fun _ _ _ _ k => k) (fun _ k => k) (fun _ _ _ _ _ k => k) (fun _ _ _ k => k) (fun _ k => k) (fun _ _ _ k => k) (fun _ _ _ _ _ k => k) (fun _ _ _ _ k => k) (fun _ k => k) (fun _ _ _ _ k => k) (fun _ k => k) (fun _ _ d _ => d) (fun _ _ d _ => d) (fun d _ => d) (fun _ _ _ _ d _ => d) (fun _ _ _ _ _ d _ => d) (fun d _ => d) (fun d _ => d) (fun d _ => d) (fun _ _ d _ => d) (fun _ _ d _ => d)
theorem onK_ok {P : FR → Prop} {v : V} {d k : FR} (hd : P d) (hk : v.pv = some v.av → v.av.one = true → P k) : P (onK v d k) := by
  cases v with
  | x y => exact ifB_ok (P := P) hd fun h => hk rfl (oneA_cells h).2
  | ag c => exact hd
  | tu c => exact hd
  | nil => exact hd
  | one h t => exact hd
  | run k l n t => exact hd
  | wh => exact hd
  | no => exact hd
  | un => exact hd
  | lv c => exact hd
  | lp s o => exact hd
  | _ => exact hk rfl rfl
theorem one_cells {v : AV} (h : v.one = true) : v.cells = [v] := by cases v <;> first | rfl | cases h
noncomputable def ncK : V → FR → (Nat → FR) → FR := @V.rec (fun _ => FR → (Nat → FR) → FR) (fun _ _ f => f 1) (fun _ _ f => f 1) (fun _ _ _ f => f 1) (fun _ _ _ f => f 1) (fun y d f => ifB (oneA y) d (f 1)) (fun _ _ _ _ f => f 1) (fun _ f => f 1) (fun _ _ _ _ _ f => f 1) (fun _ _ _ f => f 1) (fun _ f => f 1) (fun _ _ _ f => f 1) (fun _ _ _ _ _ f => f 1) (fun _ _ _ _ f => f 1) (fun _ f => f 1) (fun _ _ _ _ f => f 1) (fun _ f => f 1) (fun c _ _ f => f (lenC c)) (fun _ _ _ f => f 0) (fun d _ => d) (fun _ _ _ _ d _ => d) (fun _ _ _ _ _ d _ => d) (fun d _ => d) (fun d _ => d) (fun d _ => d) (fun _ _ d _ => d) (fun _ _ d _ => d)
theorem ncK_ok {P : FR → Prop} {v : V} {d : FR} {f : Nat → FR} (hd : P d) (hf : v.pv = some v.av → P (f v.av.cells.length)) : P (ncK v d f) := by
  cases v with
  | x v0 =>
    refine ifB_ok (P := P) hd fun h => ?_
    have := hf rfl
    simp only [V.av, (oneA_cells h).1] at this
    exact this
  | ag c =>
    have := hf rfl
    simp only [V.av, AV.cells, ← lenC_eq] at this
    exact this
  | nil => exact hd
  | one h t => exact hd
  | run k l n t => exact hd
  | wh => exact hd
  | no => exact hd
  | un => exact hd
  | lv c => exact hd
  | lp s o => exact hd
  | _ => exact hf rfl

noncomputable def nthF : V → Nat → FR → (V → FR) → FR := @V.rec (fun _ => Nat → FR → (V → FR) → FR) (fun _ _ d _ => d) (fun _ _ d _ => d) (fun _ _ _ d _ => d) (fun _ _ _ d _ => d) (fun _ _ d _ => d) (fun _ _ _ _ d _ => d) (fun _ d _ => d) (fun _ _ _ _ _ d _ => d) (fun _ _ _ d _ => d) (fun _ d _ => d) (fun _ _ _ d _ => d) (fun _ _ _ _ _ d _ => d) (fun _ _ _ _ d _ => d) (fun _ d _ => d) (fun _ _ _ _ d _ => d) (fun _ d _ => d) (fun _ _ _ d _ => d) (fun _ _ _ d _ => d) (fun _ d _ => d) (fun h _ _ iht j d f => @Nat.rec (fun _ => FR) (f h) (fun p _ => iht p d f) j) (fun k l n _ ih j d f => ifB (Nat.ble (Nat.succ j) l) (ih (Nat.sub j l) d f) (ifB (Nat.ble (dig n j) 18446744073709551616) d (f (mkS k (dig n j))))) (fun _ d _ => d) (fun _ d _ => d) (fun _ d _ => d) (fun _ _ _ d _ => d) (fun _ _ _ d _ => d)
noncomputable def nthZ (d : FR) (f : V → FR) (c : V) (j : Nat) : FR := nthF c j d f
theorem nthZ_eq (d : FR) (f : V → FR) (c : V) : ∀ j, nthZ d f c j = nthC d f c j := by
  induction c with
  | one h t _ iht => intro j; cases j with
    | zero => rfl
    | succ j => exact iht j
  | run k l n t ih =>
    intro j
    show ifB (Nat.ble (Nat.succ j) l) (nthZ d f t (Nat.sub j l)) _ = ifB (Nat.ble (Nat.succ j) l) (nthC d f t (Nat.sub j l)) _
    rw [ih]
  | _ => intro j; rfl
theorem nthZ_ok {d : FR} {f : V → FR} {P : FR → Prop} (hd : P d) (c : V) (j : Nat) (h : ∀ v, c.cl[j]? = some v.av → P (f v)) : P (nthZ d f c j) := by rw [nthZ_eq]; exact nthC_ok hd c j h
noncomputable def paK (sz : Nat) (ag : Bool) (c : V) (off : Nat) (d : FR) (f : V → FR) : FR := @Bool.rec (fun _ => FR) (nthZ d f c off)
  (ifB (Nat.ble (Nat.add off sz) (lenC c)) d (f (.ag (takeC (dropC c off) sz)))) ag
theorem paK_ok {P : FR → Prop} {sz : Nat} {ag : Bool} {c : V} {off : Nat} {d : FR} {f : V → FR} (hd : P d) (hf : ∀ v : V, part sz ag c.cl off = some v.av → P (f v)) : P (paK sz ag c off d f) := by
  cases ag with
  | false => exact nthZ_ok hd c off fun v hv => hf v (by simpa [part] using hv)
  | true =>
    show P (ifB _ _ _)
    rw [ifB_ble, lenC_eq]
    split
    · rename_i h
      refine hf _ ?_
      have h' : off + sz ≤ c.cl.length := h
      simp only [part, if_true, if_pos h', V.av, takeC_eq, dropC_eq]
    · exact hd
noncomputable def pvK (v : V) (d : FR) (f : V → FR) : FR := vK v d (f v)

noncomputable def peKc : V → V → Nat → Bool → Nat → FR → (V → FR) → FR := @V.rec (fun _ => V → Nat → Bool → Nat → FR → (V → FR) → FR) (fun _ v _ ag off d f => @Bool.rec (fun _ => FR) (@Nat.rec (fun _ => FR) (f v) (fun _ _ => d) off) d ag) (fun _ v _ ag off d f => @Bool.rec (fun _ => FR) (@Nat.rec (fun _ => FR) (f v) (fun _ _ => d) off) d ag) (fun _ _ v _ ag off d f => @Bool.rec (fun _ => FR) (@Nat.rec (fun _ => FR) (f v) (fun _ _ => d) off) d ag) (fun _ _ v _ ag off d f => @Bool.rec (fun _ => FR) (@Nat.rec (fun _ => FR) (f v) (fun _ _ => d) off) d ag) (fun y v _ ag off d f => ifB (oneA y) d (@Bool.rec (fun _ => FR) (@Nat.rec (fun _ => FR) (f v) (fun _ _ => d) off) d ag)) (fun _ _ _ v _ ag off d f => @Bool.rec (fun _ => FR) (@Nat.rec (fun _ => FR) (f v) (fun _ _ => d) off) d ag) (fun v _ ag off d f => @Bool.rec (fun _ => FR) (@Nat.rec (fun _ => FR) (f v) (fun _ _ => d) off) d ag) (fun _ _ _ _ v _ ag off d f => @Bool.rec (fun _ => FR) (@Nat.rec (fun _ => FR) (f v) (fun _ _ => d) off) d ag) (fun _ _ v _ ag off d f => @Bool.rec (fun _ => FR) (@Nat.rec (fun _ => FR) (f v) (fun _ _ => d) off) d ag) (fun v _ ag off d f => @Bool.rec (fun _ => FR) (@Nat.rec (fun _ => FR) (f v) (fun _ _ => d) off) d ag) (fun _ _ v _ ag off d f => @Bool.rec (fun _ => FR) (@Nat.rec (fun _ => FR) (f v) (fun _ _ => d) off) d ag) (fun _ _ _ _ v _ ag off d f => @Bool.rec (fun _ => FR) (@Nat.rec (fun _ => FR) (f v) (fun _ _ => d) off) d ag) (fun _ _ _ v _ ag off d f => @Bool.rec (fun _ => FR) (@Nat.rec (fun _ => FR) (f v) (fun _ _ => d) off) d ag) (fun v _ ag off d f => @Bool.rec (fun _ => FR) (@Nat.rec (fun _ => FR) (f v) (fun _ _ => d) off) d ag) (fun _ _ _ v _ ag off d f => @Bool.rec (fun _ => FR) (@Nat.rec (fun _ => FR) (f v) (fun _ _ => d) off) d ag) (fun v _ ag off d f => @Bool.rec (fun _ => FR) (@Nat.rec (fun _ => FR) (f v) (fun _ _ => d) off) d ag) (fun c _ _ sz ag off d f => paK sz ag c off d f) (fun _ _ _ _ _ _ d _ => d) (fun _ _ _ _ d _ => d) (fun _ _ _ _ _ _ _ _ d _ => d) (fun _ _ _ _ _ _ _ _ _ d _ => d) (fun _ _ _ _ d _ => d) (fun _ _ _ _ d _ => d) (fun _ _ _ _ d _ => d) (fun _ _ _ _ _ _ d _ => d) (fun _ _ _ _ _ _ d _ => d)
noncomputable def peK (sz : Nat) (ag : Bool) (v : V) (off : Nat) (d : FR) (f : V → FR) : FR := peKc v v sz ag off d f
theorem peK_ok {P : FR → Prop} {sz : Nat} {ag : Bool} {v : V} {off : Nat} {d : FR} {f : V → FR} (hd : P d) (hf : ∀ w : V, v.pv = some v.av → part sz ag v.av.cells off = some w.av → P (f w)) : P (peK sz ag v off d f) := by
  have plain : v.pv = some v.av → v.av.cells = [v.av] → P (@Bool.rec (fun _ => FR) (@Nat.rec (fun _ => FR) (f v) (fun _ _ => d) off) d ag) := fun h1 h2 => by
    cases ag with
    | true => exact hd
    | false =>
      cases off with
      | zero => exact hf v h1 (by simp [part, h2])
      | succ o => exact hd
  cases v with
  | x v0 => exact ifB_ok (P := P) hd fun h => plain rfl (oneA_cells h).1
  | ag c => exact paK_ok hd fun w hw => hf w rfl hw
  | tu c => exact hd
  | nil => exact hd
  | one h t => exact hd
  | run k l n t => exact hd
  | wh => exact hd
  | no => exact hd
  | un => exact hd
  | lv c => exact hd
  | lp s o => exact hd
  | _ => exact plain rfl rfl
end

section
variable {α : Type}
noncomputable def ncKg (v : V) (d : α) (f : Nat → α) : α := @V.rec (fun _ => α) (fun _ => f 1) (fun _ => f 1) (fun _ _ => f 1) (fun _ _ => f 1) (fun y => ifB (oneA y) d (f 1)) (fun _ _ _ => f 1) (f 1) (fun _ _ _ _ => f 1) (fun _ _ => f 1) (f 1) (fun _ _ => f 1) (fun _ _ _ _ => f 1) (fun _ _ _ => f 1) (f 1) (fun _ _ _ => f 1) (f 1) (fun c _ => f (lenC c)) (fun _ _ => f 0) d (fun _ _ _ _ => d) (fun _ _ _ _ _ => d) d d d (fun _ _ => d) (fun _ _ => d) v
theorem ncKg_ok {P : α → Prop} {v : V} {d : α} {f : Nat → α} (hd : P d) (hf : v.pv = some v.av → P (f v.av.cells.length)) : P (ncKg v d f) := by
  cases v with
  | x v0 =>
    refine ifB_ok (P := P) hd fun h => ?_
    have := hf rfl
    simp only [V.av, (oneA_cells h).1] at this
    exact this
  | ag c =>
    have := hf rfl
    simp only [V.av, AV.cells, ← lenC_eq] at this
    exact this
  | nil => exact hd
  | one h t => exact hd
  | run k l n t => exact hd
  | wh => exact hd
  | no => exact hd
  | un => exact hd
  | lv c => exact hd
  | lp s o => exact hd
  | _ => exact hf rfl

end
noncomputable def allC (sz : Nat) : V → Bool := clRec true (fun h _ ih => ncKg h false fun n => ifB (Nat.beq n sz) false ih) (fun _ _ _ _ ih => ifB (Nat.beq sz 1) false ih)
theorem digs_cells (k : Nat) : ∀ l n, (digs k l n).all (fun x => x.cells.length == 1) = true
  | 0, _ => rfl
  | l + 1, n => by
    simp only [digs, List.all_cons, digs_cells k l, Bool.and_true]
    match k with
    | 0 => rfl
    | 1 => rfl
    | k + 2 => rfl
theorem allC_ok (sz : Nat) (c : V) : allC sz c = true → c.cl.all (fun x => x.cells.length == sz) = true := by
  refine cl_cases (P := fun c => allC sz c = true → c.cl.all (fun x => x.cells.length == sz) = true) (fun h t ih => ?_) (fun k l n t ih => ?_) (fun v h0 h1 => ?_) c
  · show (ncKg h false fun n => ifB (Nat.beq n sz) false (allC sz t)) = true → _
    refine ncKg_ok (P := fun b => b = true → _) (fun h => by cases h) fun _ => ?_
    rw [ifB_beq]
    split
    · rename_i hn
      intro ht
      simp only [V.cl, List.all_cons, ih ht, Bool.and_true]
      simpa using hn
    · intro h; cases h
  · show (ifB (Nat.beq sz 1) false (allC sz t)) = true → _
    rw [ifB_beq]
    split
    · rename_i hn
      subst hn
      intro ht
      simp only [V.cl, List.all_append, digs_cells, ih ht, Bool.and_true]
    · intro h; cases h
  · intro _; rw [h1]; rfl

/-! ### memory: a tree by the bits of the numbers -/
def prs : List AV → List (AV × AV)
  | k :: v :: r => (k, v) :: prs r
  | _ => []
def Bk.blk : Bk → Option Blk
  | .no => none
  | .obj c => some (.obj c.cl)
  | .arr nl sz _ c => some (.arr nl sz c.cl)
  | .mp c => some (.map (prs c.cl))
def Bk.ok : Bk → Prop
  | .arr _ _ len c => len = c.cl.length
  | .mp c => c.cl.length % 2 = 0
  | _ => True
def HB.at : HB → Nat → Option Blk
  | .nil, _ => none
  | .nd b l r, p => if p ≤ 1 then b.blk else if p % 2 = 0 then l.at (p / 2) else r.at (p / 2)
def HB.get (t : HB) (i : Nat) : Option Blk := t.at (i + 1)
def HB.ok : HB → Prop
  | .nil => True
  | .nd b l r => b.ok ∧ l.ok ∧ r.ok
def ZH.heap (H : ZH) : Heap := ⟨H.next, H.ro, H.bl.get⟩
def ZH.ok (H : ZH) : Prop := H.bl.ok

section
variable {α : Type}
noncomputable def atK (d : α) (f : Bk → α) : HB → Nat → α := @HB.rec (fun _ => Nat → α) (fun _ => d) (fun b _ _ ihl ihr p => @Bool.rec (fun _ => α) (@Bool.rec (fun _ => α) (ihr (Nat.div p 2)) (ihl (Nat.div p 2)) (Nat.beq (Nat.mod p 2) 0)) (f b) (Nat.ble p 1))
theorem atK_ok {P : α → Prop} {d : α} {f : Bk → α} (hd : P d) : ∀ (t : HB) (p : Nat), t.ok → (∀ b : Bk, b.ok → t.at p = b.blk → P (f b)) → P (atK d f t p)
  | .nil, _, _, _ => hd
  | .nd b l r, p, ht, hf => by
    show P (ifB (Nat.ble p 1) (ifB (Nat.beq (Nat.mod p 2) 0) (atK d f r (Nat.div p 2)) (atK d f l (Nat.div p 2))) (f b))
    rw [ifB_ble, ifB_beq]
    split
    · rename_i h; exact hf b ht.1 (by simp only [HB.at, h, if_true])
    · rename_i h
      split
      · rename_i h2; exact atK_ok hd l _ ht.2.1 fun b' hb' hb => hf b' hb' (by
          simp only [HB.at, h, if_false]
          rw [if_pos (show p % 2 = 0 from h2)]; exact hb)
      · rename_i h2; exact atK_ok hd r _ ht.2.2 fun b' hb' hb => hf b' hb' (by
          simp only [HB.at, h, if_false]
          rw [if_neg (show ¬p % 2 = 0 from h2)]; exact hb)
noncomputable def bkO (d : α) (f : V → α) (b : Bk) : α := @Bk.rec (fun _ => α) d f (fun _ _ _ _ => d) (fun _ => d) b
noncomputable def bkA (d : α) (f : Bool → Nat → Nat → V → α) (b : Bk) : α := @Bk.rec (fun _ => α) d (fun _ => d) f (fun _ => d) b
noncomputable def bkM (d : α) (f : V → α) (b : Bk) : α := @Bk.rec (fun _ => α) d (fun _ => d) (fun _ _ _ _ => d) f b
noncomputable def obK (i : Nat) (d : α) (f : V → α) (t : HB) : α := atK d (bkO d f) t (Nat.succ i)
noncomputable def arK (i : Nat) (d : α) (f : Bool → Nat → Nat → V → α) (t : HB) : α := atK d (bkA d f) t (Nat.succ i)
noncomputable def mpB (i : Nat) (d : α) (f : V → α) (t : HB) : α := atK d (bkM d f) t (Nat.succ i)
theorem obK_ok {P : α → Prop} {i : Nat} {d : α} {f : V → α} (hd : P d) (t : HB) (ht : t.ok) (hf : ∀ c : V, t.get i = some (.obj c.cl) → P (f c)) : P (obK i d f t) :=
  atK_ok hd t _ ht fun b _ h => by
    cases b with
    | obj c => exact hf c h
    | _ => exact hd
theorem arK_ok {P : α → Prop} {i : Nat} {d : α} {f : Bool → Nat → Nat → V → α} (hd : P d) (t : HB) (ht : t.ok) (hf : ∀ nl sz (c : V), t.get i = some (.arr nl sz c.cl) → P (f nl sz c.cl.length c)) : P (arK i d f t) :=
  atK_ok hd t _ ht fun b hb h => by
    cases b with
    | arr nl sz len c =>
      show P (f nl sz len c)
      rw [show len = c.cl.length from hb]
      exact hf nl sz c h
    | _ => exact hd
theorem mpB_ok {P : α → Prop} {i : Nat} {d : α} {f : V → α} (hd : P d) (t : HB) (ht : t.ok) (hf : ∀ c : V, c.cl.length % 2 = 0 → t.get i = some (.map (prs c.cl)) → P (f c)) : P (mpB i d f t) :=
  atK_ok hd t _ ht fun b hb h => by
    cases b with
    | mp c => exact hf c hb h
    | _ => exact hd
end
noncomputable def mkB (b : Bk) : Nat → Nat → HB := @Nat.rec (fun _ => Nat → HB) (fun _ => .nd b .nil .nil) (fun _ ih p => @Bool.rec (fun _ => HB) (@Bool.rec (fun _ => HB) (.nd .no .nil (ih (Nat.div p 2))) (.nd .no (ih (Nat.div p 2)) .nil) (Nat.beq (Nat.mod p 2) 0)) (.nd b .nil .nil) (Nat.ble p 1))
theorem half {p q : Nat} (_ : ¬q ≤ 1) (_ : ¬p ≤ 1) (h : p % 2 = q % 2) : (q / 2 = p / 2) = (q = p) := propext ⟨fun _ => by omega, fun h => by rw [h]⟩
theorem mkB_at (b : Bk) : ∀ (n p q : Nat), 1 ≤ p → 1 ≤ q → p ≤ n + 1 → (mkB b n p).at q = if q = p then b.blk else none
  | 0, p, q, hp, hq, hn => by
    have : p = 1 := by omega
    subst this
    show (HB.nd b .nil .nil).at q = _
    simp only [HB.at]
    by_cases h : q ≤ 1
    · rw [if_pos h, if_pos (by omega)]
    · rw [if_neg h, if_neg (show ¬q = 1 by omega)]; split <;> rfl
  | n + 1, p, q, hp, hq, hn => by
    show (ifB (Nat.ble p 1) (ifB (Nat.beq (Nat.mod p 2) 0) (HB.nd .no .nil (mkB b n (Nat.div p 2))) (HB.nd .no (mkB b n (Nat.div p 2)) .nil)) (HB.nd b .nil .nil)).at q = _
    rw [ifB_ble, ifB_beq]
    have ih := fun h1 h2 => mkB_at b n (p / 2) (q / 2) h1 h2 (by omega)
    by_cases h1 : p ≤ 1
    · rw [if_pos h1]
      simp only [HB.at]
      by_cases h : q ≤ 1
      · rw [if_pos h, if_pos (by omega)]
      · rw [if_neg h, if_neg (show ¬q = p by omega)]; split <;> rfl
    · rw [if_neg h1]
      by_cases h2 : Nat.mod p 2 = 0
      · rw [if_pos h2]
        have h2' : p % 2 = 0 := h2
        simp only [HB.at]
        by_cases h : q ≤ 1
        · rw [if_pos h, if_neg (by omega)]; rfl
        · rw [if_neg h]
          by_cases h3 : q % 2 = 0
          · rw [if_pos h3]
            refine (ih (by omega) (by omega)).trans ?_
            simp only [half h h1 (show p % 2 = q % 2 by omega)]
          · rw [if_neg h3, if_neg (show ¬q = p by omega)]
      · rw [if_neg h2]
        have h2' : ¬p % 2 = 0 := h2
        simp only [HB.at]
        by_cases h : q ≤ 1
        · rw [if_pos h, if_neg (by omega)]; rfl
        · rw [if_neg h]
          by_cases h3 : q % 2 = 0
          · rw [if_pos h3, if_neg (show ¬q = p by omega)]
          · rw [if_neg h3]
            refine (ih (by omega) (by omega)).trans ?_
            simp only [half h h1 (show p % 2 = q % 2 by omega)]
theorem mkB_ok (b : Bk) (hb : b.ok) : ∀ (n p : Nat), (mkB b n p).ok
  | 0, p => ⟨hb, trivial, trivial⟩
  | n + 1, p => by
    show (ifB (Nat.ble p 1) (ifB (Nat.beq (Nat.mod p 2) 0) (HB.nd .no .nil (mkB b n (Nat.div p 2))) (HB.nd .no (mkB b n (Nat.div p 2)) .nil)) (HB.nd b .nil .nil)).ok
    rw [ifB_ble, ifB_beq]
    split
    · exact ⟨hb, trivial, trivial⟩
    · split
      · exact ⟨trivial, mkB_ok b hb n _, trivial⟩
      · exact ⟨trivial, trivial, mkB_ok b hb n _⟩
noncomputable def puB (b : Bk) : HB → Nat → HB := @HB.rec (fun _ => Nat → HB) (fun p => mkB b p p) (fun b0 l r ihl ihr p => @Bool.rec (fun _ => HB) (@Bool.rec (fun _ => HB) (.nd b0 l (ihr (Nat.div p 2))) (.nd b0 (ihl (Nat.div p 2)) r) (Nat.beq (Nat.mod p 2) 0)) (.nd b l r) (Nat.ble p 1))
theorem puB_at (b : Bk) : ∀ (t : HB) (p q : Nat), 1 ≤ p → 1 ≤ q → (puB b t p).at q = if q = p then b.blk else t.at q
  | .nil, p, q, hp, hq => mkB_at b p p q hp hq (by omega)
  | .nd b0 l r, p, q, hp, hq => by
    show (ifB (Nat.ble p 1) (ifB (Nat.beq (Nat.mod p 2) 0) (HB.nd b0 l (puB b r (Nat.div p 2))) (HB.nd b0 (puB b l (Nat.div p 2)) r)) (HB.nd b l r)).at q = _
    rw [ifB_ble, ifB_beq]
    by_cases h1 : p ≤ 1
    · rw [if_pos h1]
      simp only [HB.at]
      by_cases h : q ≤ 1
      · rw [if_pos h, if_pos (by omega)]
      · rw [if_neg h, if_neg (show ¬q = p by omega), if_neg h]
    · rw [if_neg h1]
      by_cases h2 : Nat.mod p 2 = 0
      · rw [if_pos h2]
        have h2' : p % 2 = 0 := h2
        simp only [HB.at]
        by_cases h : q ≤ 1
        · rw [if_pos h, if_neg (show ¬q = p by omega), if_pos h]
        · rw [if_neg h, if_neg h]
          by_cases h3 : q % 2 = 0
          · rw [if_pos h3, if_pos h3]
            refine (puB_at b l (p / 2) (q / 2) (by omega) (by omega)).trans ?_
            simp only [half h h1 (show p % 2 = q % 2 by omega)]
          · rw [if_neg h3, if_neg h3, if_neg (show ¬q = p by omega)]
      · rw [if_neg h2]
        have h2' : ¬p % 2 = 0 := h2
        simp only [HB.at]
        by_cases h : q ≤ 1
        · rw [if_pos h, if_neg (show ¬q = p by omega), if_pos h]
        · rw [if_neg h, if_neg h]
          by_cases h3 : q % 2 = 0
          · rw [if_pos h3, if_pos h3, if_neg (show ¬q = p by omega)]
          · rw [if_neg h3, if_neg h3]
            refine (puB_at b r (p / 2) (q / 2) (by omega) (by omega)).trans ?_
            simp only [half h h1 (show p % 2 = q % 2 by omega)]
theorem puB_ok (b : Bk) (hb : b.ok) : ∀ (t : HB) (p : Nat), t.ok → (puB b t p).ok
  | .nil, p, _ => mkB_ok b hb p p
  | .nd b0 l r, p, ht => by
    show (ifB (Nat.ble p 1) (ifB (Nat.beq (Nat.mod p 2) 0) (HB.nd b0 l (puB b r (Nat.div p 2))) (HB.nd b0 (puB b l (Nat.div p 2)) r)) (HB.nd b l r)).ok
    rw [ifB_ble, ifB_beq]
    split
    · exact ⟨hb, ht.2⟩
    · split
      · exact ⟨ht.1, puB_ok b hb l _ ht.2.1, ht.2.2⟩
      · exact ⟨ht.1, ht.2.1, puB_ok b hb r _ ht.2.2⟩
noncomputable def sB (i : Nat) (b : Bk) (t : HB) : HB := puB b t (Nat.succ i)
theorem sB_get (i : Nat) (b : Bk) (t : HB) (j : Nat) : (sB i b t).get j = if j = i then b.blk else t.get j := by
  refine (puB_at b t (i + 1) (j + 1) (by omega) (by omega)).trans ?_
  by_cases h : j = i
  · rw [if_pos h, if_pos (by omega)]
  · rw [if_neg h, if_neg (by omega)]; rfl
noncomputable def sO (i : Nat) (c : V) (t : HB) : HB := sB i (.obj c) t
noncomputable def sA (i : Nat) (nl : Bool) (sz len : Nat) (c : V) (t : HB) : HB := sB i (.arr nl sz len c) t
noncomputable def sM (i : Nat) (c : V) (t : HB) : HB := sB i (.mp c) t
noncomputable def sN (i : Nat) (t : HB) : HB := sB i .no t
theorem sO_ok {i : Nat} {c : V} {t : HB} (ht : t.ok) : (sO i c t).ok := puB_ok (.obj c) trivial t _ ht
theorem sA_ok {i : Nat} {nl : Bool} {sz len : Nat} {c : V} {t : HB} (h : len = c.cl.length) (ht : t.ok) : (sA i nl sz len c t).ok := puB_ok (.arr nl sz len c) h t _ ht
theorem sM_ok {i : Nat} {c : V} {t : HB} (h : c.cl.length % 2 = 0) (ht : t.ok) : (sM i c t).ok := puB_ok (.mp c) h t _ ht
theorem sN_ok {i : Nat} {t : HB} (ht : t.ok) : (sN i t).ok := puB_ok .no trivial t _ ht

theorem heap_obj (H : ZH) (i : Nat) (c : V) : ZH.heap ⟨H.next, H.ro, sO i c H.bl⟩ = H.heap.put i (some (.obj c.cl)) := by
  simp only [ZH.heap, Heap.put]; congr 1; funext j; exact sB_get i _ _ j
theorem heap_arr (H : ZH) (i : Nat) (nl : Bool) (sz len : Nat) (c : V) : ZH.heap ⟨H.next, H.ro, sA i nl sz len c H.bl⟩ = H.heap.put i (some (.arr nl sz c.cl)) := by
  simp only [ZH.heap, Heap.put]; congr 1; funext j; exact sB_get i _ _ j
theorem heap_del (H : ZH) (i : Nat) : ZH.heap ⟨H.next, H.ro, sN i H.bl⟩ = H.heap.put i none := by
  simp only [ZH.heap, Heap.put]; congr 1; funext j; exact sB_get i _ _ j
theorem heap_new_obj (H : ZH) (c : V) : ZH.heap ⟨H.next + 1, H.ro, sO H.next c H.bl⟩ = H.heap.new (.obj c.cl) := by
  simp only [ZH.heap, Heap.new]; congr 1; funext j; exact sB_get _ _ _ j
theorem heap_new_arr (H : ZH) (nl : Bool) (sz len : Nat) (c : V) : ZH.heap ⟨H.next + 1, H.ro, sA H.next nl sz len c H.bl⟩ = H.heap.new (.arr nl sz c.cl) := by
  simp only [ZH.heap, Heap.new]; congr 1; funext j; exact sB_get _ _ _ j

theorem heap_mp (H : ZH) (i : Nat) (c : V) : ZH.heap ⟨H.next, H.ro, sM i c H.bl⟩ = H.heap.put i (some (.map (prs c.cl))) := by
  simp only [ZH.heap, Heap.put]; congr 1; funext j; exact sB_get i _ _ j
theorem heap_new_mp (H : ZH) (c : V) : ZH.heap ⟨H.next + 1, H.ro, sM H.next c H.bl⟩ = H.heap.new (.map (prs c.cl)) := by
  simp only [ZH.heap, Heap.new]; congr 1; funext j; exact sB_get _ _ _ j

/-! ### what a run answers -/
structure Pr where
  p : FR → Prop
  bad : p .bad
def Agr (r : FR) (q : Pr) : Prop := q.p r
def Agf (r : FR) (q : Option CRes) : Prop := match r with
  | .ret v H => q = some (.ret v.av H.heap) ∧ H.ok ∧ v.pv = some v.av
  | .pan v H => q = some (.pan v.av H.heap) ∧ H.ok ∧ v.pv = some v.av
  | .bad => True
def Pr.of (q : Option CRes) : Pr := ⟨fun r => Agf r q, trivial⟩

/-! ### a slots' list, and what is in the slots -/
def E (S : List Nat) : Type := @List.rec Nat (fun _ => Type) PUnit (fun _ _ T => V × T) S
def E.hd {a : Nat} {r : List Nat} (e : E (a :: r)) : V := Prod.fst (α := V) (β := E r) e
def E.tl {a : Nat} {r : List Nat} (e : E (a :: r)) : E r := Prod.snd (α := V) (β := E r) e
def E.cons {r : List Nat} (a : Nat) (v : V) (e : E r) : E (a :: r) := Prod.mk (α := V) (β := E r) v e
def E.none : E [] := PUnit.unit
def getE : (S : List Nat) → E S → Nat → V
  | [], _, _ => .wh
  | a :: r, e, s => if s = a then e.hd else getE r e.tl s
def Rel (S : List Nat) (e : E S) (x : Env) : Prop := ∀ s, (getE S e s).den (x.get s)
theorem rel_cons {S : List Nat} {e : E S} {x : Env} (h : Rel S e x) (a : Nat) {v : V} {s : Sl} (hv : v.den s) : Rel (a :: S) (E.cons a v e) ((a, s) :: x) := by
  intro t
  simp only [getE, Env.get]
  split
  · exact hv
  · exact h t

structure Ac (S : List Nat) where
  run : E S → V
def acc : (S : List Nat) → Nat → Ac S
  | [], _ => ⟨fun _ => .wh⟩
  | [a], s => bif Nat.beq s a then ⟨fun e => Prod.fst (α := V) (β := E []) e⟩ else ⟨fun _ => .wh⟩
  | [a, b], s => bif Nat.beq s a then ⟨fun e => Prod.fst (α := V) (β := E [b]) e⟩ else bif Nat.beq s b then ⟨fun e => Prod.fst (α := V) (β := E []) (Prod.snd (α := V) (β := E [b]) e)⟩ else ⟨fun _ => .wh⟩
  | a :: b :: c :: r, s => bif Nat.beq s a then ⟨fun e => Prod.fst (α := V) (β := E (b :: c :: r)) e⟩ else
      bif Nat.beq s b then ⟨fun e => Prod.fst (α := V) (β := E (c :: r)) (Prod.snd (α := V) (β := E (b :: c :: r)) e)⟩ else
      bif Nat.beq s c then ⟨fun e => Prod.fst (α := V) (β := E r) (Prod.snd (α := V) (β := E (c :: r)) (Prod.snd (α := V) (β := E (b :: c :: r)) e))⟩ else
      ⟨fun e => (acc r s).run (Prod.snd (α := V) (β := E r) (Prod.snd (α := V) (β := E (c :: r)) (Prod.snd (α := V) (β := E (b :: c :: r)) e)))⟩
theorem beq_dec (a b : Nat) : Nat.beq a b = decide (a = b) := by
  cases h : Nat.beq a b with
  | true => simp [Nat.eq_of_beq_eq_true h]
  | false => simp [Nat.ne_of_beq_eq_false h]
theorem acc_eq : ∀ (S : List Nat) (s : Nat) (e : E S), (acc S s).run e = getE S e s
  | [], _, _ => rfl
  | [a], s, e => by
    simp only [acc, getE, beq_dec]
    by_cases h : s = a <;> simp [h] <;> rfl
  | [a, b], s, e => by
    simp only [acc, getE, beq_dec]
    by_cases h : s = a
    · simp [h]; rfl
    · by_cases h2 : s = b
      · subst h2; simp [h]; rfl
      · simp [h, h2]
  | a :: b :: c :: r, s, e => by
    have ih := acc_eq r s
    simp only [acc, getE, beq_dec]
    by_cases h : s = a
    · simp [h]; rfl
    · by_cases h2 : s = b
      · subst h2; simp [h]; rfl
      · by_cases h3 : s = c
        · subst h3; simp [h, h2]; rfl
        · simp [h, h2, h3, ih]; rfl

def ofNatI (k : IntKind) (n : Int) : V := match k with
  | .i64 => if -9223372036854775808 ≤ n then .i (n + 9223372036854775808).toNat else .x (.int k n)
  | .u8 => if 0 ≤ n then .u 0 n.toNat else .x (.int k n)
  | .u16 => if 0 ≤ n then .u 1 n.toNat else .x (.int k n)
  | .u32 => if 0 ≤ n then .u 2 n.toNat else .x (.int k n)
  | .u64 => if 0 ≤ n then .u 3 n.toNat else .x (.int k n)
  | k => .x (.int k n)
theorem ofNatI_pv (k : IntKind) (n : Int) : (ofNatI k n).pv = some (.int k n) := by
  cases k <;> simp only [ofNatI] <;> first | rfl | skip
  all_goals
    split
    · rename_i h
      simp only [V.pv, V.av, kk, Option.some.injEq, AV.int.injEq, true_and]
      omega
    · rfl
def packS : List UInt8 → Nat
  | [] => 0
  | c :: s => packS s * 256 + c.toNat
theorem packS_eq : ∀ s : List UInt8, byts s.length (packS s) = s
  | [] => rfl
  | c :: s => by
    have hc : c.toNat < 256 := c.toNat_lt
    simp only [List.length_cons, byts, packS]
    have e1 : (packS s * 256 + c.toNat) % 256 = c.toNat := by omega
    have e2 : (packS s * 256 + c.toNat) / 256 = packS s := by omega
    rw [e1, e2, packS_eq s]
    simp
mutual
noncomputable def ofAV : AV → V
  | .bool b => .b b
  | .int k n => ofNatI k n
  | .str s => .s s.length (packS s)
  | .list nl xs => .li nl (ofL xs)
  | .cap0 => .c0
  | .ms id ver lo len => .ms id ver lo len
  | .imm v => .im (ofAV v)
  | .nilp => .np
  | .ptr id off => .pt id off
  | .ap id ver i off => .ap id ver i off
  | .fn f c => .fn f (ofP c)
  | .nilfn => .nf
  | .iface t v => .fc t (ofAV v)
  | .niliface => .nc
  | .agg cs => .ag (bif Nat.ble 9 cs.length then ofL cs else ofP cs)
  | .tup vs => .tu (ofP vs)
  | v => .x v
noncomputable def ofL : List AV → V
  | [] => .nil
  | v :: r => appC (ofL r) (oneC (ofAV v))
noncomputable def ofP : List AV → V
  | [] => .nil
  | v :: r => .one (ofAV v) (ofP r)
end
mutual
theorem ofAV_pv : ∀ v : AV, (ofAV v).pv = some v ∧ (ofAV v).av = v
  | .undef => ⟨rfl, rfl⟩
  | .bool b => ⟨rfl, rfl⟩
  | .int k n => by simp only [ofAV]; exact ⟨ofNatI_pv k n, (V.pv_sl (ofNatI_pv k n)).2.1⟩
  | .str s => by simp only [ofAV, V.pv, V.av, packS_eq]; exact ⟨trivial, trivial⟩
  | .flt _ _ => ⟨rfl, rfl⟩
  | .list nl xs => by simp only [ofAV, V.pv, V.av, ofL_cl xs]; exact ⟨trivial, trivial⟩
  | .cap0 => ⟨rfl, rfl⟩
  | .ms id ver lo len => ⟨rfl, rfl⟩
  | .imm v => by simp only [ofAV, V.pv, V.av, (ofAV_pv v).2]; exact ⟨trivial, trivial⟩
  | .nilp => ⟨rfl, rfl⟩
  | .ptr id off => ⟨rfl, rfl⟩
  | .ap id ver i off => ⟨rfl, rfl⟩
  | .fn f c => by simp only [ofAV, V.pv, V.av, ofP_cl c]; exact ⟨trivial, trivial⟩
  | .nilfn => ⟨rfl, rfl⟩
  | .iface t v => by simp only [ofAV, V.pv, V.av, (ofAV_pv v).2]; exact ⟨trivial, trivial⟩
  | .niliface => ⟨rfl, rfl⟩
  | .agg cs => by simp only [ofAV, V.pv, V.av]; cases Nat.ble 9 cs.length <;> simp only [cond_true, cond_false, ofL_cl cs, ofP_cl cs] <;> exact ⟨trivial, trivial⟩
  | .tup vs => by simp only [ofAV, V.pv, V.av, ofP_cl vs]; exact ⟨trivial, trivial⟩
  | .mp _ => ⟨rfl, rfl⟩
  | .nilmap => ⟨rfl, rfl⟩
theorem ofL_cl : ∀ l : List AV, (ofL l).cl = l
  | [] => rfl
  | v :: r => by simp only [ofL, appC_eq, oneC_eq, (ofAV_pv v).2, ofL_cl r, List.singleton_append]
theorem ofP_cl : ∀ l : List AV, (ofP l).cl = l
  | [] => rfl
  | v :: r => by simp only [ofP, V.cl, (ofAV_pv v).2, ofP_cl r]
end
noncomputable def ofCs (cs : List AV) : V := bif Nat.ble 9 cs.length then ofL cs else ofP cs
theorem ofCs_cl (cs : List AV) : (ofCs cs).cl = cs := by
  simp only [ofCs]; cases Nat.ble 9 cs.length <;> simp only [cond_true, cond_false, ofL_cl cs, ofP_cl cs]

noncomputable def opd (S : List Nat) : Opd → Ac S
  | .t n => acc S n
  | .k v => ⟨fun _ => ofAV v⟩
def opn : Opd → Nat
  | .t n => n
  | .k _ => 0
theorem opd_val {S : List Nat} {e : E S} {x : Env} (h : Rel S e x) (o : Opd) : ((opd S o).run e).val (x.av o) := by
  intro a ha
  cases o with
  | k v => simp only [opd, (ofAV_pv v).1, Option.some.injEq] at ha; subst ha; rfl
  | t n =>
    simp only [opd, acc_eq] at ha
    have := (V.pv_sl ha).2.2.1 _ (h n)
    simp only [Env.av, Env.sl, this]
theorem opd_dle {S : List Nat} {e : E S} {x : Env} (h : Rel S e x) (o : Opd) : ((opd S o).run e).dle (opn o) (x.sl o) := by
  cases o with
  | k v =>
    have := (ofAV_pv v).1
    simp only [opd, opn, Env.sl]
    revert this
    generalize ofAV v = y
    intro this
    have h1 := (V.pv_sl this).1
    cases y <;> first | (cases this; done) | (cases this; exact rfl)
  | t n =>
    simp only [opd, acc_eq, opn, Env.sl]
    have := h n
    revert this
    generalize getE S e n = y
    intro this
    cases y <;> first | trivial | (simp only [V.den] at this; rw [this]; rfl)
end Ey

namespace Ey
open Go (IntKind FloatKind BinOp UnOp)

theorem wrap64 {z : Int} (h1 : -9223372036854775808 ≤ z) (h2 : z < 9223372036854775808) : IntKind.i64.wrap z = z := by
  simp [IntKind.wrap, IntKind.bits, IntKind.signed]; omega
theorem subB (B w : Nat) : Nat.sub (B + 1 + w) B = w + 1 := by show B + 1 + w - B = w + 1; omega
theorem someI {A B : Int} (h : A = B) : some (AV.int .i64 A) = some (AV.int .i64 B) := h ▸ rfl
noncomputable def mK (k : Nat) : Nat := @Nat.rec (fun _ => Nat) 256 (fun k _ => @Nat.rec (fun _ => Nat) 65536 (fun k _ => @Nat.rec (fun _ => Nat) 4294967296 (fun _ _ => 18446744073709551616) k) k) k
theorem mK_eq (k : Nat) : mK k = 2 ^ (kk k).bits := by
  match k with
  | 0 => rfl
  | 1 => rfl
  | 2 => rfl
  | k + 3 => rfl
theorem kk_signed (k : Nat) : (kk k).signed = false := by
  match k with
  | 0 => rfl
  | 1 => rfl
  | 2 => rfl
  | k + 3 => rfl
theorem mK_pos (k : Nat) : 0 < mK k := by rw [mK_eq]; exact Nat.pow_pos (by decide)
theorem wrapU (k : Nat) (z : Int) : (kk k).wrap z = z % (mK k : Int) := by
  simp only [IntKind.wrap, kk_signed, mK_eq]
  simp
theorem wrapUn (k n : Nat) : (kk k).wrap (n : Int) = ((n % mK k : Nat) : Int) := by
  rw [wrapU]; norm_cast

section
variable {q : Pr}

def Ans (κ : V → FR) (q : Pr) (r : Option AV) : Prop := ∀ x a, r = some a → x.pv = some a → Agr (κ x) q

noncomputable def slowB (op : BinOp) (a b : V) (κ : V → FR) : FR := vK a .bad (vK b .bad (@Option.rec AV (fun _ => FR) .bad (fun r => κ (ofAV r)) (binAV op a.av b.av)))
def bin2 (op : BinOp) (ra rb : Option AV) : Option AV := match ra, rb with
  | some a, some b => binAV op a b
  | _, _ => none
theorem slowB_ok {op : BinOp} {a b : V} {ra rb : Option AV} (ha : a.val ra) (hb : b.val rb) {κ : V → FR} (h : Ans κ q (bin2 op ra rb)) : Agr (slowB op a b κ) q := by
  refine vK_ok (P := fun r => Agr r q) q.bad fun h1 => vK_ok (P := fun r => Agr r q) q.bad fun h2 => ?_
  obtain rfl := ha _ h1
  obtain rfl := hb _ h2
  simp only [bin2] at h
  cases hr : binAV op a.av b.av with
  | none => exact q.bad
  | some r => exact h _ _ hr (ofAV_pv r).1

noncomputable def num2 (op : BinOp) (a b : V) (κ : V → FR) (fi : Nat → Nat → FR) (fu : Nat → Nat → Nat → FR) (fs : Nat → Nat → Nat → Nat → FR) : FR :=
  numK a (slowB op a b κ) (fun x => iK b (slowB op a b κ) fun y => fi x y) (fun k x => uK b (slowB op a b κ) fun k' y => ifB (Nat.beq k k') (slowB op a b κ) (fu k x y)) (fun l n => sK b (slowB op a b κ) fun l' n' => fs l n l' n')
theorem num2_ok {op : BinOp} {a b : V} {ra rb : Option AV} (ha : a.val ra) (hb : b.val rb) {κ : V → FR} {fi : Nat → Nat → FR} {fu : Nat → Nat → Nat → FR} {fs : Nat → Nat → Nat → Nat → FR} (h : Ans κ q (bin2 op ra rb))
    (hi : Agr (slowB op a b κ) q → ∀ x y : Nat, Ans κ q (binAV op (.int .i64 ((x : Int) - 9223372036854775808)) (.int .i64 ((y : Int) - 9223372036854775808))) → Agr (fi x y) q)
    (hu : Agr (slowB op a b κ) q → ∀ k x y : Nat, Ans κ q (binAV op (.int (kk k) x) (.int (kk k) y)) → Agr (fu k x y) q)
    (hs : Agr (slowB op a b κ) q → ∀ l n l' n' : Nat, Ans κ q (binAV op (.str (byts l n)) (.str (byts l' n'))) → Agr (fs l n l' n') q) : Agr (num2 op a b κ fi fu fs) q := by
  have sl := slowB_ok ha hb h
  refine numK_ok (P := fun r => Agr r q) ha sl (fun x hx => iK_ok (P := fun r => Agr r q) hb sl fun y hy => hi sl x y ?_)
    (fun k x hx => uK_ok (P := fun r => Agr r q) hb sl fun k' y hy => ?_) (fun l n hx => sK_ok (P := fun r => Agr r q) hb sl fun l' n' hy => hs sl l n l' n' ?_)
  · rw [hx, hy] at h; exact h
  · rw [ifB_beq]
    split
    · rename_i hk; subst hk; rw [hx, hy] at h; exact hu sl k x y h
    · exact sl
  · rw [hx, hy] at h; exact h

noncomputable def iR (lo z : Nat) (slow : FR) (κ : V → FR) : FR := ifB (Nat.ble lo z) slow (ifB (Nat.ble (Nat.sub z lo) 18446744073709551615) slow (κ (.i (Nat.sub z lo))))
theorem iR_ok {lo z : Nat} {slow : FR} {κ : V → FR} {r : Option AV} (hs : Agr slow q) (h : Ans κ q r) (hz : lo ≤ z → z - lo < 18446744073709551616 → r = some (.int .i64 (((z - lo : Nat) : Int) - 9223372036854775808))) : Agr (iR lo z slow κ) q := by
  simp only [iR, ifB_ble]
  split
  · rename_i h1
    split
    · rename_i h2
      exact h (.i (z - lo)) _ (hz h1 (by have h2' : z - lo ≤ 18446744073709551615 := h2; omega)) rfl
    · exact hs
  · exact hs

noncomputable def zAdd (a b : V) (κ : V → FR) : FR := num2 .add a b κ (fun x y => iR 9223372036854775808 (Nat.add x y) (slowB .add a b κ) κ)
  (fun k x y => κ (.u k (Nat.mod (Nat.add x y) (mK k)))) (fun l n l' n' => ifB (Nat.ble (Nat.add l l') 1099511627776) .bad (κ (.s (Nat.add l l') (Nat.add (Nat.mod n (Nat.shiftLeft 1 (Nat.mul 8 l))) (Nat.shiftLeft n' (Nat.mul 8 l))))))
theorem shl8 (n j : Nat) : Nat.shiftLeft n (Nat.mul 8 j) = n * 256 ^ j := by
  show n <<< (8 * j) = _
  rw [Nat.shiftLeft_eq, Nat.pow_mul]
theorem shr8 (n j : Nat) : Nat.shiftRight n (Nat.mul 8 j) = n / 256 ^ j := by
  show n >>> (8 * j) = _
  rw [Nat.shiftRight_eq_div_pow, Nat.pow_mul]
theorem byts_app : ∀ l n m p, byts l n ++ byts m p = byts (l + m) (n % 256 ^ l + p * 256 ^ l)
  | 0, n, m, p => by simp [byts, Nat.mod_one]
  | l + 1, n, m, p => by
    rw [show l + 1 + m = (l + m) + 1 from by omega]
    simp only [byts, List.cons_append]
    rw [byts_app l]
    have e1 : n % 256 ^ (l + 1) = n % 256 + 256 * (n / 256 % 256 ^ l) := by
      rw [Nat.pow_succ, Nat.mul_comm, Nat.mod_mul]
    have e2 : p * 256 ^ (l + 1) = 256 * (p * 256 ^ l) := by
      rw [Nat.pow_succ]; simp only [Nat.mul_comm, Nat.mul_left_comm]
    have e3 : n % 256 ^ (l + 1) + p * 256 ^ (l + 1) = n % 256 + 256 * (n / 256 % 256 ^ l + p * 256 ^ l) := by
      rw [e1, e2, Nat.mul_add, Nat.add_assoc]
    rw [e3, Nat.add_mul_mod_self_left, Nat.add_mul_div_left _ _ (by decide), Nat.mod_mod]
    rw [Nat.div_eq_of_lt (Nat.mod_lt n (by decide)), Nat.zero_add]
theorem zAdd_ok {a b : V} {ra rb : Option AV} (ha : a.val ra) (hb : b.val rb) {κ : V → FR} (h : Ans κ q (bin2 .add ra rb)) : Agr (zAdd a b κ) q := by
  refine num2_ok ha hb h (fun sl x y h => iR_ok sl h fun h1 h2 => ?_) (fun sl k x y h => h (.u k _) _ ?_ rfl) (fun sl l n l' n' h => ?_)
  · have h1' : 9223372036854775808 ≤ x + y := h1
    have h2' : x + y - 9223372036854775808 < 18446744073709551616 := h2
    show some (AV.int .i64 (IntKind.i64.wrap _)) = some (.int .i64 ((((x + y) - 9223372036854775808 : Nat) : Int) - 9223372036854775808))
    rw [wrap64 (by omega) (by omega)]
    exact someI (by omega)
  · show (if kk k = kk k then (some ((kk k).wrap ((x : Int) + y))).map (AV.int (kk k)) else none) = some (AV.int (kk k) ((((x + y) % mK k : Nat)) : Int))
    rw [if_pos rfl, ← wrapUn]; rfl
  · rw [ifB_ble]
    split
    · rename_i h1
      refine h _ _ ?_ rfl
      have h1' : l + l' ≤ 1099511627776 := h1
      show (if (byts l n).length + (byts l' n').length ≤ 2 ^ 40 then some (AV.str (byts l n ++ byts l' n')) else none) = some (.str (byts (l + l') (n % (Nat.shiftLeft 1 (Nat.mul 8 l)) + Nat.shiftLeft n' (Nat.mul 8 l))))
      rw [byts_length, byts_length, if_pos (by omega), byts_app, shl8, shl8, Nat.one_mul]
    · exact q.bad

noncomputable def zSub (a b : V) (κ : V → FR) : FR := num2 .sub a b κ (fun x y => iR y (Nat.add x 9223372036854775808) (slowB .sub a b κ) κ)
  (fun k x y => ifB (Nat.ble y x) (slowB .sub a b κ) (κ (.u k (Nat.mod (Nat.sub x y) (mK k))))) (fun _ _ _ _ => slowB .sub a b κ)
theorem zSub_ok {a b : V} {ra rb : Option AV} (ha : a.val ra) (hb : b.val rb) {κ : V → FR} (h : Ans κ q (bin2 .sub ra rb)) : Agr (zSub a b κ) q := by
  refine num2_ok ha hb h (fun sl x y h => iR_ok sl h fun h1 h2 => ?_) (fun sl k x y h => ?_) (fun sl l n l' n' h => sl)
  · have h1' : y ≤ x + 9223372036854775808 := h1
    have h2' : x + 9223372036854775808 - y < 18446744073709551616 := h2
    show some (AV.int .i64 (IntKind.i64.wrap _)) = some (.int .i64 ((((x + 9223372036854775808) - y : Nat) : Int) - 9223372036854775808))
    rw [wrap64 (by omega) (by omega)]
    exact someI (by omega)
  · rw [ifB_ble]
    split
    · rename_i h1
      refine h (.u k _) _ ?_ rfl
      show (if kk k = kk k then (some ((kk k).wrap ((x : Int) - y))).map (AV.int (kk k)) else none) = some (AV.int (kk k) ((((x - y) % mK k : Nat)) : Int))
      rw [if_pos rfl, ← wrapUn]
      have h1' : y ≤ x := h1
      have : ((x : Int) - y) = ((x - y : Nat) : Int) := by omega
      rw [this]; rfl
    · exact sl

noncomputable def zMul (a b : V) (κ : V → FR) : FR := num2 .mul a b κ (fun x y => ifB (Nat.ble 9223372036854775808 x) (slowB .mul a b κ) (ifB (Nat.ble 9223372036854775808 y) (slowB .mul a b κ)
    (iR 0 (Nat.add (Nat.mul (Nat.sub x 9223372036854775808) (Nat.sub y 9223372036854775808)) 9223372036854775808) (slowB .mul a b κ) κ)))
  (fun k x y => κ (.u k (Nat.mod (Nat.mul x y) (mK k)))) (fun _ _ _ _ => slowB .mul a b κ)
theorem zMul_ok {a b : V} {ra rb : Option AV} (ha : a.val ra) (hb : b.val rb) {κ : V → FR} (h : Ans κ q (bin2 .mul ra rb)) : Agr (zMul a b κ) q := by
  refine num2_ok ha hb h (fun sl x y h => ?_) (fun sl k x y h => h (.u k _) _ ?_ rfl) (fun sl l n l' n' h => sl)
  · rw [ifB_ble, ifB_ble]
    split
    · rename_i hx
      split
      · rename_i hy
        refine iR_ok sl h fun h1 h2 => ?_
        obtain ⟨u, rfl⟩ := Nat.exists_eq_add_of_le hx
        obtain ⟨w, rfl⟩ := Nat.exists_eq_add_of_le hy
        have e1 : Nat.sub (9223372036854775808 + u) 9223372036854775808 = u := Nat.add_sub_cancel_left ..
        have e2 : Nat.sub (9223372036854775808 + w) 9223372036854775808 = w := Nat.add_sub_cancel_left ..
        rw [e1, e2] at h2 ⊢
        have h2' : u * w + 9223372036854775808 - 0 < 18446744073709551616 := h2
        show some (AV.int .i64 (IntKind.i64.wrap _)) = some (.int .i64 (((u * w + 9223372036854775808 - 0 : Nat) : Int) - 9223372036854775808))
        have e3 : (((9223372036854775808 + u : Nat) : Int) - 9223372036854775808) * (((9223372036854775808 + w : Nat) : Int) - 9223372036854775808) = ((u * w : Nat) : Int) := by
          have a1 : (((9223372036854775808 + u : Nat) : Int) - 9223372036854775808) = (u : Int) := by omega
          have a2 : (((9223372036854775808 + w : Nat) : Int) - 9223372036854775808) = (w : Int) := by omega
          rw [a1, a2, Int.natCast_mul]
        rw [e3, wrap64 (by omega) (by omega)]
        exact someI (by omega)
      · exact sl
    · exact sl
  · show (if kk k = kk k then (some ((kk k).wrap ((x : Int) * y))).map (AV.int (kk k)) else none) = some (AV.int (kk k) ((((x * y) % mK k : Nat)) : Int))
    rw [if_pos rfl, ← wrapUn]; rfl

noncomputable def zDiv (op : BinOp) (f : Nat → Nat → Nat) (a b : V) (κ : V → FR) : FR := num2 op a b κ (fun x y => ifB (Nat.ble 9223372036854775808 x) (slowB op a b κ) (ifB (Nat.ble 9223372036854775809 y) (slowB op a b κ)
    (iR 0 (Nat.add (f (Nat.sub x 9223372036854775808) (Nat.sub y 9223372036854775808)) 9223372036854775808) (slowB op a b κ) κ)))
  (fun k x y => ifB (Nat.ble 1 y) (slowB op a b κ) (ifB (Nat.ble (Nat.succ (f x y)) (mK k)) (slowB op a b κ) (κ (.u k (f x y))))) (fun _ _ _ _ => slowB op a b κ)
theorem zDiv_ok {op : BinOp} {f : Nat → Nat → Nat} (hf : ∀ (k : IntKind) (x y : Nat), 0 < y → k.wrap ((f x y : Nat) : Int) = ((f x y : Nat) : Int) → binAV op (.int k x) (.int k y) = some (.int k (f x y : Nat)))
    {a b : V} {ra rb : Option AV} (ha : a.val ra) (hb : b.val rb) {κ : V → FR} (h : Ans κ q (bin2 op ra rb)) : Agr (zDiv op f a b κ) q := by
  refine num2_ok ha hb h (fun sl x y h => ?_) (fun sl k x y h => ?_) (fun sl l n l' n' h => sl)
  · rw [ifB_ble, ifB_ble]
    split
    · rename_i hx
      split
      · rename_i hy
        refine iR_ok sl h fun h1 h2 => ?_
        obtain ⟨u, rfl⟩ := Nat.exists_eq_add_of_le hx
        obtain ⟨w, rfl⟩ := Nat.exists_eq_add_of_le hy
        have e1 : Nat.sub (9223372036854775808 + u) 9223372036854775808 = u := Nat.add_sub_cancel_left ..
        have e2 : Nat.sub (9223372036854775809 + w) 9223372036854775808 = w + 1 := subB 9223372036854775808 w
        rw [e1, e2] at h2 ⊢
        have h2' : f u (w + 1) + 9223372036854775808 - 0 < 18446744073709551616 := h2
        have e3 : (((9223372036854775808 + u : Nat) : Int) - 9223372036854775808) = (u : Int) := by omega
        have e4 : (((9223372036854775809 + w : Nat) : Int) - 9223372036854775808) = ((w + 1 : Nat) : Int) := by omega
        rw [e3, e4, hf .i64 u (w + 1) (by omega) (wrap64 (by omega) (by omega))]
        show some (AV.int .i64 _) = some (.int .i64 (((f u (w + 1) + 9223372036854775808 - 0 : Nat) : Int) - 9223372036854775808))
        exact someI (by omega)
      · exact sl
    · exact sl
  · rw [ifB_ble, ifB_ble]
    split
    · rename_i hy
      split
      · rename_i hz
        refine h (.u k _) _ (hf (kk k) x y hy ?_) rfl
        rw [wrapUn, Nat.mod_eq_of_lt hz]
      · exact sl
    · exact sl
theorem quo_ok (k : IntKind) (x y : Nat) (hy : 0 < y) (hw : k.wrap ((Nat.div x y : Nat) : Int) = ((Nat.div x y : Nat) : Int)) : binAV .quo (.int k x) (.int k y) = some (.int k (Nat.div x y : Nat)) := by
  show (if k = k then (if (y : Int) = 0 then none else some (k.wrap ((x : Int).tdiv y))).map (AV.int k) else none) = _
  rw [if_pos rfl, if_neg (by omega)]
  have : (x : Int).tdiv y = ((Nat.div x y : Nat) : Int) := rfl
  rw [this, hw]; rfl
theorem rem_ok (k : IntKind) (x y : Nat) (hy : 0 < y) (_ : k.wrap ((Nat.mod x y : Nat) : Int) = ((Nat.mod x y : Nat) : Int)) : binAV .rem (.int k x) (.int k y) = some (.int k (Nat.mod x y : Nat)) := by
  show (if k = k then (if (y : Int) = 0 then none else some ((x : Int).tmod y)).map (AV.int k) else none) = _
  rw [if_pos rfl, if_neg (by omega)]
  rfl

noncomputable def zBit (op : BinOp) (f : Nat → Nat → Nat) (a b : V) (κ : V → FR) : FR := num2 op a b κ (fun _ _ => slowB op a b κ)
  (fun k x y => ifB (Nat.ble (Nat.succ x) (mK k)) (slowB op a b κ) (ifB (Nat.ble (Nat.succ y) (mK k)) (slowB op a b κ) (κ (.u k (f x y))))) (fun _ _ _ _ => slowB op a b κ)
theorem zBit_ok {op : BinOp} {f : Nat → Nat → Nat} (hf : ∀ (k x y : Nat), x < mK k → y < mK k → binAV op (.int (kk k) x) (.int (kk k) y) = some (.int (kk k) (f x y : Nat)))
    {a b : V} {ra rb : Option AV} (ha : a.val ra) (hb : b.val rb) {κ : V → FR} (h : Ans κ q (bin2 op ra rb)) : Agr (zBit op f a b κ) q := by
  refine num2_ok ha hb h (fun sl x y h => sl) (fun sl k x y h => ?_) (fun sl l n l' n' h => sl)
  rw [ifB_ble, ifB_ble]
  split
  · rename_i h1
    split
    · rename_i h2
      exact h (.u k _) _ (hf k x y h1 h2) rfl
    · exact sl
  · exact sl
theorem bvn (b x : Nat) : BitVec.ofInt b (x : Int) = BitVec.ofNat b x := by simp
theorem and_okz (k x y : Nat) (hx : x < mK k) (hy : y < mK k) : binAV .and (.int (kk k) x) (.int (kk k) y) = some (.int (kk k) (Nat.land x y : Nat)) := by
  rw [mK_eq] at hx hy
  simp only [binAV, if_true, arI, Option.map_some, bvn, BitVec.toNat_and, BitVec.toNat_ofNat, Nat.mod_eq_of_lt hx, Nat.mod_eq_of_lt hy]
  rw [wrapUn, Nat.mod_eq_of_lt (by rw [mK_eq]; exact Nat.and_lt_two_pow x hy)]; rfl
theorem or_okz (k x y : Nat) (hx : x < mK k) (hy : y < mK k) : binAV .or (.int (kk k) x) (.int (kk k) y) = some (.int (kk k) (Nat.lor x y : Nat)) := by
  rw [mK_eq] at hx hy
  simp only [binAV, if_true, arI, Option.map_some, bvn, BitVec.toNat_or, BitVec.toNat_ofNat, Nat.mod_eq_of_lt hx, Nat.mod_eq_of_lt hy]
  rw [wrapUn, Nat.mod_eq_of_lt (by rw [mK_eq]; exact Nat.or_lt_two_pow hx hy)]; rfl
theorem xor_okz (k x y : Nat) (hx : x < mK k) (hy : y < mK k) : binAV .xor (.int (kk k) x) (.int (kk k) y) = some (.int (kk k) (Nat.xor x y : Nat)) := by
  rw [mK_eq] at hx hy
  simp only [binAV, if_true, arI, Option.map_some, bvn, BitVec.toNat_xor, BitVec.toNat_ofNat, Nat.mod_eq_of_lt hx, Nat.mod_eq_of_lt hy]
  rw [wrapUn, Nat.mod_eq_of_lt (by rw [mK_eq]; exact Nat.xor_lt_two_pow hx hy)]; rfl

noncomputable def shK (b : V) (d : FR) (f : Nat → FR) : FR := numK b d (fun y => ifB (Nat.ble 9223372036854775808 y) d (f (Nat.sub y 9223372036854775808))) (fun _ y => f y) (fun _ _ => d)
noncomputable def biK (k : Nat) : Nat := @Nat.rec (fun _ => Nat) 8 (fun k _ => @Nat.rec (fun _ => Nat) 16 (fun k _ => @Nat.rec (fun _ => Nat) 32 (fun _ _ => 64) k) k) k
theorem biK_eq (k : Nat) : biK k = (kk k).bits := by
  match k with
  | 0 => rfl
  | 1 => rfl
  | 2 => rfl
  | k + 3 => rfl
noncomputable def zMin (x y : Nat) : Nat := ifB (Nat.ble x y) y x
theorem zMin_eq (x y : Nat) : zMin x y = min x y := by
  rw [zMin, ifB_ble]; split <;> omega
noncomputable def zShl (a b : V) (κ : V → FR) : FR := uK a (slowB .shl a b κ) fun k x => shK b (slowB .shl a b κ) fun s => κ (.u k (Nat.mod (Nat.shiftLeft x (zMin s (biK k))) (mK k)))
noncomputable def zShr (a b : V) (κ : V → FR) : FR := numK a (slowB .shr a b κ)
  (fun x => ifB (Nat.ble 9223372036854775808 x) (slowB .shr a b κ) (shK b (slowB .shr a b κ) fun s => κ (.i (Nat.add (Nat.shiftRight (Nat.sub x 9223372036854775808) (zMin s 64)) 9223372036854775808))))
  (fun k x => shK b (slowB .shr a b κ) fun s => κ (.u k (Nat.shiftRight x (zMin s (biK k))))) (fun _ _ => slowB .shr a b κ)
theorem shK_ok {b : V} {rb : Option AV} (hb : b.val rb) {d : FR} {f : Nat → FR} (hd : Agr d q) (hf : ∀ (k : IntKind) (s : Nat), rb = some (.int k s) → Agr (f s) q) : Agr (shK b d f) q := by
  refine numK_ok (P := fun r => Agr r q) hb hd (fun y hy => ?_) (fun k y hy => hf _ y hy) (fun _ _ _ => hd)
  rw [ifB_ble]
  split
  · rename_i h
    refine hf .i64 _ ?_
    obtain ⟨u, rfl⟩ := Nat.exists_eq_add_of_le h
    rw [hy]
    have : Nat.sub (9223372036854775808 + u) 9223372036854775808 = u := Nat.add_sub_cancel_left ..
    rw [this]; exact someI (by omega)
  · exact hd
theorem zShl_ok {a b : V} {ra rb : Option AV} (ha : a.val ra) (hb : b.val rb) {κ : V → FR} (h : Ans κ q (bin2 .shl ra rb)) : Agr (zShl a b κ) q := by
  have sl := slowB_ok ha hb h
  refine uK_ok (P := fun r => Agr r q) ha sl fun k x hx => shK_ok hb sl fun k' s hs => ?_
  rw [hx, hs] at h
  refine h (.u k _) _ ?_ rfl
  show (if (s : Int) < 0 then none else some ((kk k).wrap ((x : Int) * 2 ^ (min ((s : Int).toNat) (kk k).bits)))).map (AV.int (kk k)) = some (AV.int (kk k) ((Nat.shiftLeft x (zMin s (biK k)) % mK k : Nat) : Int))
  rw [if_neg (by omega), ← wrapUn, zMin_eq, biK_eq]
  have : Nat.shiftLeft x (min s (kk k).bits) = x * 2 ^ min s (kk k).bits := Nat.shiftLeft_eq _ _
  rw [this]
  simp
theorem zShr_ok {a b : V} {ra rb : Option AV} (ha : a.val ra) (hb : b.val rb) {κ : V → FR} (h : Ans κ q (bin2 .shr ra rb)) : Agr (zShr a b κ) q := by
  have sl := slowB_ok ha hb h
  have fd : ∀ (u m : Nat), (u : Int).fdiv (2 ^ m) = ((Nat.shiftRight u m : Nat) : Int) := fun u m => by
    have e : Nat.shiftRight u m = u / 2 ^ m := Nat.shiftRight_eq_div_pow _ _
    rw [e, Int.fdiv_eq_ediv_of_nonneg _ (Int.pow_nonneg (by decide))]
    norm_cast
  refine numK_ok (P := fun r => Agr r q) ha sl (fun x hx => ?_) (fun k x hx => shK_ok hb sl fun k' s hs => ?_) (fun _ _ _ => sl)
  · rw [ifB_ble]
    split
    · rename_i h1
      refine shK_ok hb sl fun k' s hs => ?_
      rw [hx, hs] at h
      refine h (.i _) _ ?_ rfl
      obtain ⟨u, rfl⟩ := Nat.exists_eq_add_of_le h1
      have e1 : Nat.sub (9223372036854775808 + u) 9223372036854775808 = u := Nat.add_sub_cancel_left ..
      have e3 : (((9223372036854775808 + u : Nat) : Int) - 9223372036854775808) = (u : Int) := by omega
      rw [e1, e3]
      show (if (s : Int) < 0 then none else some ((u : Int).fdiv (2 ^ (min ((s : Int).toNat) 64)))).map (AV.int .i64) = some (AV.int .i64 (((Nat.shiftRight u (zMin s 64) + 9223372036854775808 : Nat) : Int) - 9223372036854775808))
      rw [if_neg (by omega), zMin_eq, Int.toNat_natCast, fd]
      show some (AV.int .i64 _) = _
      exact someI (by omega)
    · exact sl
  · rw [hx, hs] at h
    refine h (.u k _) _ ?_ rfl
    show (if (s : Int) < 0 then none else some ((x : Int).fdiv (2 ^ (min ((s : Int).toNat) (kk k).bits)))).map (AV.int (kk k)) = some (AV.int (kk k) ((Nat.shiftRight x (zMin s (biK k)) : Nat) : Int))
    rw [if_neg (by omega), zMin_eq, biK_eq, Int.toNat_natCast, fd]; rfl

/-! ### held against one another -/
noncomputable def byEq (l n l' n' : Nat) : Bool := ifB (Nat.beq l l') false (Nat.beq (Nat.mod n (Nat.shiftLeft 1 (Nat.mul 8 l))) (Nat.mod n' (Nat.shiftLeft 1 (Nat.mul 8 l))))
theorem byts_inj : ∀ l n n', byts l n = byts l n' → n % 256 ^ l = n' % 256 ^ l
  | 0, n, n', _ => by simp [Nat.mod_one]
  | l + 1, n, n', h => by
    simp only [byts, List.cons.injEq] at h
    have h1 : n % 256 = n' % 256 := by
      have := congrArg UInt8.toNat h.1
      simpa [UInt8.toNat_ofNat] using this
    have h2 := byts_inj l _ _ h.2
    rw [Nat.pow_succ, Nat.mul_comm, Nat.mod_mul, Nat.mod_mul, h1, h2]
theorem byts_mod : ∀ l n, byts l n = byts l (n % 256 ^ l)
  | 0, n => rfl
  | l + 1, n => by
    simp only [byts]
    have e : n % 256 ^ (l + 1) = n % 256 + 256 * (n / 256 % 256 ^ l) := by
      rw [Nat.pow_succ, Nat.mul_comm, Nat.mod_mul]
    rw [e, Nat.add_mul_mod_self_left, Nat.mod_mod, Nat.add_mul_div_left _ _ (by decide), Nat.div_eq_of_lt (Nat.mod_lt n (by decide)), Nat.zero_add, ← byts_mod l]
theorem byEq_eq (l n l' n' : Nat) : byEq l n l' n' = (byts l n == byts l' n') := by
  rw [byEq, ifB_beq]
  by_cases h : l = l'
  · subst h
    rw [if_pos rfl, shl8, Nat.one_mul, beq_dec]
    rw [Bool.eq_iff_iff]
    simp only [decide_eq_true_eq, beq_iff_eq]
    constructor
    · intro h; rw [byts_mod l n, byts_mod l n']; exact congrArg _ h
    · intro h; exact byts_inj l n n' h
  · rw [if_neg h]
    symm
    rw [beq_eq_false_iff_ne]
    intro he
    have := congrArg List.length he
    rw [byts_length, byts_length] at this
    exact h this
noncomputable def zNot (b : Bool) : Bool := @Bool.rec (fun _ => Bool) true false b
theorem zNot_eq (b : Bool) : zNot b = !b := by cases b <;> rfl

noncomputable def zCmp (op : BinOp) (f : Nat → Nat → Bool) (fs : Nat → Nat → Nat → Nat → FR) (a b : V) (κ : V → FR) : FR := num2 op a b κ (fun x y => κ (.b (f x y))) (fun _ x y => κ (.b (f x y))) fs
theorem zCmp_ok {op : BinOp} {f : Nat → Nat → Bool} {fs : Nat → Nat → Nat → Nat → FR} (hf : ∀ (k : IntKind) (x y : Nat) (B : Int), binAV op (.int k ((x : Int) - B)) (.int k ((y : Int) - B)) = some (.bool (f x y)))
    {a b : V} {ra rb : Option AV} (ha : a.val ra) (hb : b.val rb) {κ : V → FR} (h : Ans κ q (bin2 op ra rb))
    (hs : Agr (slowB op a b κ) q → ∀ l n l' n' : Nat, Ans κ q (binAV op (.str (byts l n)) (.str (byts l' n'))) → Agr (fs l n l' n') q) : Agr (zCmp op f fs a b κ) q := by
  refine num2_ok ha hb h (fun sl x y h => h (.b _) _ (hf .i64 x y _) rfl) (fun sl k x y h => h (.b _) _ ?_ rfl) hs
  have := hf (kk k) x y 0
  simp only [Int.sub_zero] at this
  exact this
noncomputable def zEql (a b : V) (κ : V → FR) : FR := zCmp .eql (fun x y => Nat.beq x y) (fun l n l' n' => κ (.b (byEq l n l' n'))) a b κ
noncomputable def zNeq (a b : V) (κ : V → FR) : FR := zCmp .neq (fun x y => zNot (Nat.beq x y)) (fun l n l' n' => κ (.b (zNot (byEq l n l' n')))) a b κ
noncomputable def zLss (a b : V) (κ : V → FR) : FR := zCmp .lss (fun x y => Nat.ble (Nat.succ x) y) (fun _ _ _ _ => slowB .lss a b κ) a b κ
noncomputable def zLeq (a b : V) (κ : V → FR) : FR := zCmp .leq (fun x y => Nat.ble x y) (fun _ _ _ _ => slowB .leq a b κ) a b κ
noncomputable def zGtr (a b : V) (κ : V → FR) : FR := zCmp .gtr (fun x y => Nat.ble (Nat.succ y) x) (fun _ _ _ _ => slowB .gtr a b κ) a b κ
noncomputable def zGeq (a b : V) (κ : V → FR) : FR := zCmp .geq (fun x y => Nat.ble y x) (fun _ _ _ _ => slowB .geq a b κ) a b κ
theorem ble_dec (a b : Nat) : Nat.ble a b = decide (a ≤ b) := by
  cases h : Nat.ble a b with
  | true => simp [Nat.le_of_ble_eq_true h]
  | false =>
    have h' : ¬ a ≤ b := fun h2 => by rw [Nat.ble_eq_true_of_le h2] at h; cases h
    simp only [h', decide_false]
theorem cmp_at (op : BinOp) (k : IntKind) (a b : Int) (r : Bool) (h : cmpI op a b = some r) (ho : binAV op (.int k a) (.int k b) = if k = k then (cmpI op a b).map .bool else none) : binAV op (.int k a) (.int k b) = some (.bool r) := by
  rw [ho, if_pos rfl, h]; rfl

noncomputable def binY : BinOp → V → V → (V → FR) → FR := @BinOp.rec (fun _ => V → V → (V → FR) → FR) zAdd zSub zMul (zDiv .quo Nat.div) (zDiv .rem Nat.mod) (zBit .and Nat.land) (zBit .or Nat.lor) (zBit .xor Nat.xor) zShl zShr (slowB .andNot) zEql zNeq zLss zLeq zGtr zGeq
theorem binY_ok (op : BinOp) {a b : V} {ra rb : Option AV} (ha : a.val ra) (hb : b.val rb) {κ : V → FR} (h : Ans κ q (bin2 op ra rb)) : Agr (binY op a b κ) q := by
  cases op with
  | add => exact zAdd_ok ha hb h
  | sub => exact zSub_ok ha hb h
  | mul => exact zMul_ok ha hb h
  | quo => exact zDiv_ok quo_ok ha hb h
  | rem => exact zDiv_ok rem_ok ha hb h
  | and => exact zBit_ok and_okz ha hb h
  | or => exact zBit_ok or_okz ha hb h
  | xor => exact zBit_ok xor_okz ha hb h
  | shl => exact zShl_ok ha hb h
  | shr => exact zShr_ok ha hb h
  | andNot => exact slowB_ok ha hb h
  | eql =>
    refine zCmp_ok (fun k x y B => cmp_at _ k _ _ _ ?_ rfl) ha hb h fun sl l n l' n' h => h (.b _) _ ?_ rfl
    · simp only [cmpI, beq_dec, Option.some.injEq]; rw [Bool.eq_iff_iff]; simp; omega
    · rw [byEq_eq]; rfl
  | neq =>
    refine zCmp_ok (fun k x y B => cmp_at _ k _ _ _ ?_ rfl) ha hb h fun sl l n l' n' h => h (.b _) _ ?_ rfl
    · simp only [cmpI, zNot_eq, beq_dec, Option.some.injEq]; rw [Bool.eq_iff_iff]; simp; omega
    · rw [zNot_eq, byEq_eq]; rfl
  | lss =>
    refine zCmp_ok (fun k x y B => cmp_at _ k _ _ _ ?_ rfl) ha hb h fun sl l n l' n' h => sl
    simp only [cmpI, ble_dec, Option.some.injEq, decide_eq_decide]; omega
  | leq =>
    refine zCmp_ok (fun k x y B => cmp_at _ k _ _ _ ?_ rfl) ha hb h fun sl l n l' n' h => sl
    simp only [cmpI, ble_dec, Option.some.injEq, decide_eq_decide]; omega
  | gtr =>
    refine zCmp_ok (fun k x y B => cmp_at _ k _ _ _ ?_ rfl) ha hb h fun sl l n l' n' h => sl
    simp only [cmpI, ble_dec, Option.some.injEq, decide_eq_decide]; omega
  | geq =>
    refine zCmp_ok (fun k x y B => cmp_at _ k _ _ _ ?_ rfl) ha hb h fun sl l n l' n' h => sl
    simp only [cmpI, ble_dec, Option.some.injEq, decide_eq_decide]; omega
/-! ### the same, with nothing caught: what is told apart stands first -/
noncomputable def n2I : V → Nat → V → V → (V → FR) → BinOp → (Nat → Nat → V → V → (V → FR) → FR) → FR := @V.rec (fun _ => Nat → V → V → (V → FR) → BinOp → (Nat → Nat → V → V → (V → FR) → FR) → FR) (fun y x a b κ _ fi => fi x y a b κ) (fun _ _ a b κ op _ => slowB op a b κ) (fun _ _ _ a b κ op _ => slowB op a b κ) (fun _ _ _ a b κ op _ => slowB op a b κ) (fun _ _ a b κ op _ => slowB op a b κ) (fun _ _ _ _ a b κ op _ => slowB op a b κ) (fun _ a b κ op _ => slowB op a b κ) (fun _ _ _ _ _ a b κ op _ => slowB op a b κ) (fun _ _ _ a b κ op _ => slowB op a b κ) (fun _ a b κ op _ => slowB op a b κ) (fun _ _ _ a b κ op _ => slowB op a b κ) (fun _ _ _ _ _ a b κ op _ => slowB op a b κ) (fun _ _ _ _ a b κ op _ => slowB op a b κ) (fun _ a b κ op _ => slowB op a b κ) (fun _ _ _ _ a b κ op _ => slowB op a b κ) (fun _ a b κ op _ => slowB op a b κ) (fun _ _ _ a b κ op _ => slowB op a b κ) (fun _ _ _ a b κ op _ => slowB op a b κ) (fun _ a b κ op _ => slowB op a b κ) (fun _ _ _ _ _ a b κ op _ => slowB op a b κ) (fun _ _ _ _ _ _ a b κ op _ => slowB op a b κ) (fun _ a b κ op _ => slowB op a b κ) (fun _ a b κ op _ => slowB op a b κ) (fun _ a b κ op _ => slowB op a b κ) (fun _ _ _ a b κ op _ => slowB op a b κ) (fun _ _ _ a b κ op _ => slowB op a b κ)
noncomputable def n2U : V → Nat → Nat → V → V → (V → FR) → BinOp → (Nat → Nat → Nat → V → V → (V → FR) → FR) → FR := @V.rec (fun _ => Nat → Nat → V → V → (V → FR) → BinOp → (Nat → Nat → Nat → V → V → (V → FR) → FR) → FR) (fun _ _ _ a b κ op _ => slowB op a b κ) (fun _ _ _ a b κ op _ => slowB op a b κ) (fun j y k x a b κ op fu => @Bool.rec (fun _ => FR) (slowB op a b κ) (fu k x y a b κ) (Nat.beq k j)) (fun _ _ _ _ a b κ op _ => slowB op a b κ) (fun _ _ _ a b κ op _ => slowB op a b κ) (fun _ _ _ _ _ a b κ op _ => slowB op a b κ) (fun _ _ a b κ op _ => slowB op a b κ) (fun _ _ _ _ _ _ a b κ op _ => slowB op a b κ) (fun _ _ _ _ a b κ op _ => slowB op a b κ) (fun _ _ a b κ op _ => slowB op a b κ) (fun _ _ _ _ a b κ op _ => slowB op a b κ) (fun _ _ _ _ _ _ a b κ op _ => slowB op a b κ) (fun _ _ _ _ _ a b κ op _ => slowB op a b κ) (fun _ _ a b κ op _ => slowB op a b κ) (fun _ _ _ _ _ a b κ op _ => slowB op a b κ) (fun _ _ a b κ op _ => slowB op a b κ) (fun _ _ _ _ a b κ op _ => slowB op a b κ) (fun _ _ _ _ a b κ op _ => slowB op a b κ) (fun _ _ a b κ op _ => slowB op a b κ) (fun _ _ _ _ _ _ a b κ op _ => slowB op a b κ) (fun _ _ _ _ _ _ _ a b κ op _ => slowB op a b κ) (fun _ _ a b κ op _ => slowB op a b κ) (fun _ _ a b κ op _ => slowB op a b κ) (fun _ _ a b κ op _ => slowB op a b κ) (fun _ _ _ _ a b κ op _ => slowB op a b κ) (fun _ _ _ _ a b κ op _ => slowB op a b κ)
noncomputable def n2S : V → Nat → Nat → V → V → (V → FR) → BinOp → (Nat → Nat → Nat → Nat → V → V → (V → FR) → FR) → FR := @V.rec (fun _ => Nat → Nat → V → V → (V → FR) → BinOp → (Nat → Nat → Nat → Nat → V → V → (V → FR) → FR) → FR) (fun _ _ _ a b κ op _ => slowB op a b κ) (fun _ _ _ a b κ op _ => slowB op a b κ) (fun _ _ _ _ a b κ op _ => slowB op a b κ) (fun m p l n a b κ _ fs => fs l n m p a b κ) (fun _ _ _ a b κ op _ => slowB op a b κ) (fun _ _ _ _ _ a b κ op _ => slowB op a b κ) (fun _ _ a b κ op _ => slowB op a b κ) (fun _ _ _ _ _ _ a b κ op _ => slowB op a b κ) (fun _ _ _ _ a b κ op _ => slowB op a b κ) (fun _ _ a b κ op _ => slowB op a b κ) (fun _ _ _ _ a b κ op _ => slowB op a b κ) (fun _ _ _ _ _ _ a b κ op _ => slowB op a b κ) (fun _ _ _ _ _ a b κ op _ => slowB op a b κ) (fun _ _ a b κ op _ => slowB op a b κ) (fun _ _ _ _ _ a b κ op _ => slowB op a b κ) (fun _ _ a b κ op _ => slowB op a b κ) (fun _ _ _ _ a b κ op _ => slowB op a b κ) (fun _ _ _ _ a b κ op _ => slowB op a b κ) (fun _ _ a b κ op _ => slowB op a b κ) (fun _ _ _ _ _ _ a b κ op _ => slowB op a b κ) (fun _ _ _ _ _ _ _ a b κ op _ => slowB op a b κ) (fun _ _ a b κ op _ => slowB op a b κ) (fun _ _ a b κ op _ => slowB op a b κ) (fun _ _ a b κ op _ => slowB op a b κ) (fun _ _ _ _ a b κ op _ => slowB op a b κ) (fun _ _ _ _ a b κ op _ => slowB op a b κ)
noncomputable def n2 : V → V → V → (V → FR) → BinOp → (Nat → Nat → V → V → (V → FR) → FR) → (Nat → Nat → Nat → V → V → (V → FR) → FR) → (Nat → Nat → Nat → Nat → V → V → (V → FR) → FR) → FR := @V.rec (fun _ => V → V → (V → FR) → BinOp → (Nat → Nat → V → V → (V → FR) → FR) → (Nat → Nat → Nat → V → V → (V → FR) → FR) → (Nat → Nat → Nat → Nat → V → V → (V → FR) → FR) → FR) (fun x a b κ op fi _ _ => n2I b x a b κ op fi) (fun _ a b κ op _ _ _ => slowB op a b κ) (fun k x a b κ op _ fu _ => n2U b k x a b κ op fu) (fun l n a b κ op _ _ fs => n2S b l n a b κ op fs) (fun _ a b κ op _ _ _ => slowB op a b κ) (fun _ _ _ a b κ op _ _ _ => slowB op a b κ) (fun a b κ op _ _ _ => slowB op a b κ) (fun _ _ _ _ a b κ op _ _ _ => slowB op a b κ) (fun _ _ a b κ op _ _ _ => slowB op a b κ) (fun a b κ op _ _ _ => slowB op a b κ) (fun _ _ a b κ op _ _ _ => slowB op a b κ) (fun _ _ _ _ a b κ op _ _ _ => slowB op a b κ) (fun _ _ _ a b κ op _ _ _ => slowB op a b κ) (fun a b κ op _ _ _ => slowB op a b κ) (fun _ _ _ a b κ op _ _ _ => slowB op a b κ) (fun a b κ op _ _ _ => slowB op a b κ) (fun _ _ a b κ op _ _ _ => slowB op a b κ) (fun _ _ a b κ op _ _ _ => slowB op a b κ) (fun a b κ op _ _ _ => slowB op a b κ) (fun _ _ _ _ a b κ op _ _ _ => slowB op a b κ) (fun _ _ _ _ _ a b κ op _ _ _ => slowB op a b κ) (fun a b κ op _ _ _ => slowB op a b κ) (fun a b κ op _ _ _ => slowB op a b κ) (fun a b κ op _ _ _ => slowB op a b κ) (fun _ _ a b κ op _ _ _ => slowB op a b κ) (fun _ _ a b κ op _ _ _ => slowB op a b κ)
theorem n2_eq (op : BinOp) (a b : V) (κ : V → FR) (fi : Nat → Nat → V → V → (V → FR) → FR) (fu : Nat → Nat → Nat → V → V → (V → FR) → FR) (fs : Nat → Nat → Nat → Nat → V → V → (V → FR) → FR) : n2 a a b κ op fi fu fs = num2 op a b κ (fun x y => fi x y a b κ) (fun k x y => fu k x y a b κ) (fun l n l' n' => fs l n l' n' a b κ) := by
  cases a <;> first | rfl | (cases b <;> rfl)
noncomputable def addI (x y : Nat) (a b : V) (κ : V → FR) : FR := iR 9223372036854775808 (Nat.add x y) (slowB .add a b κ) κ
noncomputable def addU (k x y : Nat) (_ _ : V) (κ : V → FR) : FR := κ (.u k (Nat.mod (Nat.add x y) (mK k)))
noncomputable def addS (l n l' n' : Nat) (_ _ : V) (κ : V → FR) : FR := ifB (Nat.ble (Nat.add l l') 1099511627776) .bad (κ (.s (Nat.add l l') (Nat.add (Nat.mod n (Nat.shiftLeft 1 (Nat.mul 8 l))) (Nat.shiftLeft n' (Nat.mul 8 l)))))
noncomputable def subI (x y : Nat) (a b : V) (κ : V → FR) : FR := iR y (Nat.add x 9223372036854775808) (slowB .sub a b κ) κ
noncomputable def subU (k x y : Nat) (a b : V) (κ : V → FR) : FR := ifB (Nat.ble y x) (slowB .sub a b κ) (κ (.u k (Nat.mod (Nat.sub x y) (mK k))))
noncomputable def subS (_ _ _ _ : Nat) (a b : V) (κ : V → FR) : FR := slowB .sub a b κ
noncomputable def mulI (x y : Nat) (a b : V) (κ : V → FR) : FR := ifB (Nat.ble 9223372036854775808 x) (slowB .mul a b κ) (ifB (Nat.ble 9223372036854775808 y) (slowB .mul a b κ) (iR 0 (Nat.add (Nat.mul (Nat.sub x 9223372036854775808) (Nat.sub y 9223372036854775808)) 9223372036854775808) (slowB .mul a b κ) κ))
noncomputable def mulU (k x y : Nat) (_ _ : V) (κ : V → FR) : FR := κ (.u k (Nat.mod (Nat.mul x y) (mK k)))
noncomputable def mulS (_ _ _ _ : Nat) (a b : V) (κ : V → FR) : FR := slowB .mul a b κ
noncomputable def quoI (x y : Nat) (a b : V) (κ : V → FR) : FR := ifB (Nat.ble 9223372036854775808 x) (slowB .quo a b κ) (ifB (Nat.ble 9223372036854775809 y) (slowB .quo a b κ) (iR 0 (Nat.add (Nat.div (Nat.sub x 9223372036854775808) (Nat.sub y 9223372036854775808)) 9223372036854775808) (slowB .quo a b κ) κ))
noncomputable def quoU (k x y : Nat) (a b : V) (κ : V → FR) : FR := ifB (Nat.ble 1 y) (slowB .quo a b κ) (ifB (Nat.ble (Nat.succ (Nat.div x y)) (mK k)) (slowB .quo a b κ) (κ (.u k (Nat.div x y))))
noncomputable def quoS (_ _ _ _ : Nat) (a b : V) (κ : V → FR) : FR := slowB .quo a b κ
noncomputable def remI (x y : Nat) (a b : V) (κ : V → FR) : FR := ifB (Nat.ble 9223372036854775808 x) (slowB .rem a b κ) (ifB (Nat.ble 9223372036854775809 y) (slowB .rem a b κ) (iR 0 (Nat.add (Nat.mod (Nat.sub x 9223372036854775808) (Nat.sub y 9223372036854775808)) 9223372036854775808) (slowB .rem a b κ) κ))
noncomputable def remU (k x y : Nat) (a b : V) (κ : V → FR) : FR := ifB (Nat.ble 1 y) (slowB .rem a b κ) (ifB (Nat.ble (Nat.succ (Nat.mod x y)) (mK k)) (slowB .rem a b κ) (κ (.u k (Nat.mod x y))))
noncomputable def remS (_ _ _ _ : Nat) (a b : V) (κ : V → FR) : FR := slowB .rem a b κ
noncomputable def andI (_ _ : Nat) (a b : V) (κ : V → FR) : FR := slowB .and a b κ
noncomputable def andU (k x y : Nat) (a b : V) (κ : V → FR) : FR := ifB (Nat.ble (Nat.succ x) (mK k)) (slowB .and a b κ) (ifB (Nat.ble (Nat.succ y) (mK k)) (slowB .and a b κ) (κ (.u k (Nat.land x y))))
noncomputable def andS (_ _ _ _ : Nat) (a b : V) (κ : V → FR) : FR := slowB .and a b κ
noncomputable def orI (_ _ : Nat) (a b : V) (κ : V → FR) : FR := slowB .or a b κ
noncomputable def orU (k x y : Nat) (a b : V) (κ : V → FR) : FR := ifB (Nat.ble (Nat.succ x) (mK k)) (slowB .or a b κ) (ifB (Nat.ble (Nat.succ y) (mK k)) (slowB .or a b κ) (κ (.u k (Nat.lor x y))))
noncomputable def orS (_ _ _ _ : Nat) (a b : V) (κ : V → FR) : FR := slowB .or a b κ
noncomputable def xorI (_ _ : Nat) (a b : V) (κ : V → FR) : FR := slowB .xor a b κ
noncomputable def xorU (k x y : Nat) (a b : V) (κ : V → FR) : FR := ifB (Nat.ble (Nat.succ x) (mK k)) (slowB .xor a b κ) (ifB (Nat.ble (Nat.succ y) (mK k)) (slowB .xor a b κ) (κ (.u k (Nat.xor x y))))
noncomputable def xorS (_ _ _ _ : Nat) (a b : V) (κ : V → FR) : FR := slowB .xor a b κ
noncomputable def eqlI (x y : Nat) (_ _ : V) (κ : V → FR) : FR := κ (.b (Nat.beq x y))
noncomputable def eqlU (_ x y : Nat) (_ _ : V) (κ : V → FR) : FR := κ (.b (Nat.beq x y))
noncomputable def eqlS (l n l' n' : Nat) (_ _ : V) (κ : V → FR) : FR := κ (.b (byEq l n l' n'))
noncomputable def neqI (x y : Nat) (_ _ : V) (κ : V → FR) : FR := κ (.b (zNot (Nat.beq x y)))
noncomputable def neqU (_ x y : Nat) (_ _ : V) (κ : V → FR) : FR := κ (.b (zNot (Nat.beq x y)))
noncomputable def neqS (l n l' n' : Nat) (_ _ : V) (κ : V → FR) : FR := κ (.b (zNot (byEq l n l' n')))
noncomputable def lssI (x y : Nat) (_ _ : V) (κ : V → FR) : FR := κ (.b (Nat.ble (Nat.succ x) y))
noncomputable def lssU (_ x y : Nat) (_ _ : V) (κ : V → FR) : FR := κ (.b (Nat.ble (Nat.succ x) y))
noncomputable def lssS (_ _ _ _ : Nat) (a b : V) (κ : V → FR) : FR := slowB .lss a b κ
noncomputable def leqI (x y : Nat) (_ _ : V) (κ : V → FR) : FR := κ (.b (Nat.ble x y))
noncomputable def leqU (_ x y : Nat) (_ _ : V) (κ : V → FR) : FR := κ (.b (Nat.ble x y))
noncomputable def leqS (_ _ _ _ : Nat) (a b : V) (κ : V → FR) : FR := slowB .leq a b κ
noncomputable def gtrI (x y : Nat) (_ _ : V) (κ : V → FR) : FR := κ (.b (Nat.ble (Nat.succ y) x))
noncomputable def gtrU (_ x y : Nat) (_ _ : V) (κ : V → FR) : FR := κ (.b (Nat.ble (Nat.succ y) x))
noncomputable def gtrS (_ _ _ _ : Nat) (a b : V) (κ : V → FR) : FR := slowB .gtr a b κ
noncomputable def geqI (x y : Nat) (_ _ : V) (κ : V → FR) : FR := κ (.b (Nat.ble y x))
noncomputable def geqU (_ x y : Nat) (_ _ : V) (κ : V → FR) : FR := κ (.b (Nat.ble y x))
noncomputable def geqS (_ _ _ _ : Nat) (a b : V) (κ : V → FR) : FR := slowB .geq a b κ
noncomputable def yAdd (a b : V) (κ : V → FR) : FR := n2 a a b κ .add addI addU addS
theorem yAdd_eq (a b : V) (κ : V → FR) : yAdd a b κ = zAdd a b κ := n2_eq .add a b κ addI addU addS
noncomputable def ySub (a b : V) (κ : V → FR) : FR := n2 a a b κ .sub subI subU subS
theorem ySub_eq (a b : V) (κ : V → FR) : ySub a b κ = zSub a b κ := n2_eq .sub a b κ subI subU subS
noncomputable def yMul (a b : V) (κ : V → FR) : FR := n2 a a b κ .mul mulI mulU mulS
theorem yMul_eq (a b : V) (κ : V → FR) : yMul a b κ = zMul a b κ := n2_eq .mul a b κ mulI mulU mulS
noncomputable def yQuo (a b : V) (κ : V → FR) : FR := n2 a a b κ .quo quoI quoU quoS
theorem yQuo_eq (a b : V) (κ : V → FR) : yQuo a b κ = zDiv .quo Nat.div a b κ := n2_eq .quo a b κ quoI quoU quoS
noncomputable def yRem (a b : V) (κ : V → FR) : FR := n2 a a b κ .rem remI remU remS
theorem yRem_eq (a b : V) (κ : V → FR) : yRem a b κ = zDiv .rem Nat.mod a b κ := n2_eq .rem a b κ remI remU remS
noncomputable def yAnd (a b : V) (κ : V → FR) : FR := n2 a a b κ .and andI andU andS
theorem yAnd_eq (a b : V) (κ : V → FR) : yAnd a b κ = zBit .and Nat.land a b κ := n2_eq .and a b κ andI andU andS
noncomputable def yOr (a b : V) (κ : V → FR) : FR := n2 a a b κ .or orI orU orS
theorem yOr_eq (a b : V) (κ : V → FR) : yOr a b κ = zBit .or Nat.lor a b κ := n2_eq .or a b κ orI orU orS
noncomputable def yXor (a b : V) (κ : V → FR) : FR := n2 a a b κ .xor xorI xorU xorS
theorem yXor_eq (a b : V) (κ : V → FR) : yXor a b κ = zBit .xor Nat.xor a b κ := n2_eq .xor a b κ xorI xorU xorS
noncomputable def yEql (a b : V) (κ : V → FR) : FR := n2 a a b κ .eql eqlI eqlU eqlS
theorem yEql_eq (a b : V) (κ : V → FR) : yEql a b κ = zEql a b κ := n2_eq .eql a b κ eqlI eqlU eqlS
noncomputable def yNeq (a b : V) (κ : V → FR) : FR := n2 a a b κ .neq neqI neqU neqS
theorem yNeq_eq (a b : V) (κ : V → FR) : yNeq a b κ = zNeq a b κ := n2_eq .neq a b κ neqI neqU neqS
noncomputable def yLss (a b : V) (κ : V → FR) : FR := n2 a a b κ .lss lssI lssU lssS
theorem yLss_eq (a b : V) (κ : V → FR) : yLss a b κ = zLss a b κ := n2_eq .lss a b κ lssI lssU lssS
noncomputable def yLeq (a b : V) (κ : V → FR) : FR := n2 a a b κ .leq leqI leqU leqS
theorem yLeq_eq (a b : V) (κ : V → FR) : yLeq a b κ = zLeq a b κ := n2_eq .leq a b κ leqI leqU leqS
noncomputable def yGtr (a b : V) (κ : V → FR) : FR := n2 a a b κ .gtr gtrI gtrU gtrS
theorem yGtr_eq (a b : V) (κ : V → FR) : yGtr a b κ = zGtr a b κ := n2_eq .gtr a b κ gtrI gtrU gtrS
noncomputable def yGeq (a b : V) (κ : V → FR) : FR := n2 a a b κ .geq geqI geqU geqS
theorem yGeq_eq (a b : V) (κ : V → FR) : yGeq a b κ = zGeq a b κ := n2_eq .geq a b κ geqI geqU geqS
noncomputable def binZ : BinOp → V → V → (V → FR) → FR := @BinOp.rec (fun _ => V → V → (V → FR) → FR) yAdd ySub yMul yQuo yRem yAnd yOr yXor zShl zShr (slowB .andNot) yEql yNeq yLss yLeq yGtr yGeq
theorem binZ_eq (op : BinOp) (a b : V) (κ : V → FR) : binZ op a b κ = binY op a b κ := by
  cases op with
  | add => exact yAdd_eq a b κ
  | sub => exact ySub_eq a b κ
  | mul => exact yMul_eq a b κ
  | quo => exact yQuo_eq a b κ
  | rem => exact yRem_eq a b κ
  | and => exact yAnd_eq a b κ
  | or => exact yOr_eq a b κ
  | xor => exact yXor_eq a b κ
  | shl => exact rfl
  | shr => exact rfl
  | andNot => exact rfl
  | eql => exact yEql_eq a b κ
  | neq => exact yNeq_eq a b κ
  | lss => exact yLss_eq a b κ
  | leq => exact yLeq_eq a b κ
  | gtr => exact yGtr_eq a b κ
  | geq => exact yGeq_eq a b κ
theorem binZ_ok (op : BinOp) {a b : V} {ra rb : Option AV} (ha : a.val ra) (hb : b.val rb) {κ : V → FR} (h : Ans κ q (bin2 op ra rb)) : Agr (binZ op a b κ) q := by rw [binZ_eq]; exact binY_ok op ha hb h
end
end Ey

namespace Ey
open Go (IntKind FloatKind BinOp UnOp)

/-! ### more on lists of cells -/
noncomputable def putG (c : V) (off : Nat) (w : V) : V := appC (appC (dropC c (Nat.add off (lenC w))) w) (takeC c off)
noncomputable def nilC (a b : V) : V → V := clRec a (fun _ _ _ => b) (fun _ _ _ _ _ => b)
noncomputable def putC' (c : V) (off : Nat) (w : V) : V := clRec (putG c off w) (fun h t _ => nilC (setC h c off) (putG c off w) t) (fun k l n t _ => ifB (Nat.beq l 1) (putG c off w) (nilC (setC (mkS k (dig n 0)) c off) (putG c off w) t)) w
theorem putG_eq (c : V) (off : Nat) (w : V) : (putG c off w).cl = putAt c.cl off w.cl := by
  simp only [putG, appC_eq, dropC_eq, takeC_eq, lenC_eq, putAt, List.append_assoc]; rfl
theorem set_putAt {l : List AV} {off : Nat} {v : AV} (h : off < l.length) : l.set off v = putAt l off [v] := by
  rw [List.set_eq_take_append_cons_drop, if_pos h]
  simp [putAt]
theorem nilC_or {P : V → Prop} {a b : V} (t : V) (ha : t.cl = [] → P a) (hb : P b) : P (nilC a b t) := by
  refine cl_cases (P := fun t => (t.cl = [] → P a) → P (nilC a b t)) (fun h t _ _ => hb) (fun k l n t _ _ => hb) (fun v h0 h1 h => ?_) t ha
  have : nilC a b v = a := h0 _ _ _
  rw [this]; exact h h1
theorem putC'_eq {c : V} {off : Nat} (w : V) (h : off + w.cl.length ≤ c.cl.length) : (putC' c off w).cl = putAt c.cl off w.cl := by
  have gen := putG_eq c off w
  revert h gen
  refine cl_cases (P := fun w => off + w.cl.length ≤ c.cl.length → (putG c off w).cl = putAt c.cl off w.cl → (putC' c off w).cl = putAt c.cl off w.cl) (fun h t _ hl gen => ?_) (fun k l n t _ hl gen => ?_) (fun v h0 h1 hl gen => ?_) w
  · show (nilC (setC h c off) (putG c off (.one h t)) t).cl = _
    refine nilC_or (P := fun x => x.cl = _) t (fun ht => ?_) gen
    simp only [V.cl, List.length_cons] at hl
    rw [setC_eq, set_putAt (by omega)]; simp only [V.cl, ht]
  · show (ifB (Nat.beq l 1) (putG c off (.run k l n t)) (nilC (setC (mkS k (dig n 0)) c off) (putG c off (.run k l n t)) t)).cl = _
    rw [ifB_beq]
    split
    · rename_i h1
      subst h1
      refine nilC_or (P := fun x => x.cl = _) t (fun ht => ?_) gen
      simp only [V.cl, digs, List.length_cons, List.cons_append] at hl
      rw [setC_eq, set_putAt (by omega)]; simp only [V.cl, ht, digs, (mkS_sl _ _).1, dig_zero, List.append_nil]
    · exact gen
  · have : putC' c off v = putG c off v := h0 _ _ _
    rw [this]; exact gen

section
variable {q : Pr}
noncomputable def wrK (sz : Nat) (v c : V) (off : Nat) (d : FR) (f : V → FR) : FR := ceK v d fun w => ifB (Nat.beq (lenC w) sz) d (ifB (Nat.ble (Nat.add off sz) (lenC c)) d (f (putC' c off w)))
theorem wrK_ok {sz : Nat} {v c : V} {off : Nat} {d : FR} {f : V → FR} (hd : Agr d q) (hf : ∀ w : V, v.pv = some v.av → v.av.cells.length = sz → off + sz ≤ c.cl.length → w.cl = putAt c.cl off v.av.cells → Agr (f w) q) : Agr (wrK sz v c off d f) q := by
  refine ceK_ok (P := fun r => Agr r q) hd fun w hv hw => ?_
  rw [ifB_beq, ifB_ble, lenC_eq, lenC_eq]
  split
  · rename_i h1
    split
    · rename_i h2
      have h2' : off + sz ≤ c.cl.length := h2
      exact hf _ hv (by rw [← hw]; exact h1) h2 (by rw [putC'_eq w (by omega), hw])
    · exact hd
  · exact hd

noncomputable def setK (v : V) (d : FR) : V → Nat → (V → FR) → FR := clRec (fun _ _ => d) (fun h t ih j k => @Nat.rec (fun _ => FR) (k (.one v t)) (fun p _ => ih p fun t' => k (.one h t')) j)
  (fun g l n t ih j k => @Bool.rec (fun _ => FR) (ih (Nat.sub j l) fun t' => k (.run g l n t'))
    (scK v (k (setC v (.run g l n t) j)) fun g' m => @Bool.rec (fun _ => FR) (k (setC v (.run g l n t) j)) (@Bool.rec (fun _ => FR) (k (setC v (.run g l n t) j)) (k (.run g l (digSet n j m) t)) (Nat.ble m 18446744073709551615)) (Nat.beq g g')) (Nat.ble (Nat.succ j) l))
theorem setK_ok {q : Pr} (v : V) {d : FR} (hd : Agr d q) (c : V) : ∀ (j : Nat) (k : V → FR), (∀ w : V, j < c.cl.length → w.cl = c.cl.set j v.av → Agr (k w) q) → Agr (setK v d c j k) q := by
  refine cl_cases (P := fun c => ∀ (j : Nat) (k : V → FR), (∀ w : V, j < c.cl.length → w.cl = c.cl.set j v.av → Agr (k w) q) → Agr (setK v d c j k) q) (fun h t ih j k hk => ?_) (fun g l n t ih j k hk => ?_) (fun w h0 h1 j k hk => ?_) c
  · cases j with
    | zero => exact hk _ (by simp [V.cl]) rfl
    | succ j => exact ih j _ fun w hl hw => hk _ (by simp only [V.cl, List.length_cons]; omega) (by simp only [V.cl, hw, List.set_cons_succ])
  · have slow : j < l → Agr (k (setC v (.run g l n t) j)) q := fun hl => hk _ (by simp only [V.cl, List.length_append, digs_length]; omega) (setC_eq _ _ _)
    show Agr (@Bool.rec (fun _ => FR) (setK v d t (Nat.sub j l) fun t' => k (.run g l n t'))
      (scK v (k (setC v (.run g l n t) j)) fun g' m => @Bool.rec (fun _ => FR) (k (setC v (.run g l n t) j)) (@Bool.rec (fun _ => FR) (k (setC v (.run g l n t) j)) (k (.run g l (digSet n j m) t)) (Nat.ble m 18446744073709551615)) (Nat.beq g g')) (Nat.ble (Nat.succ j) l)) q
    cases hb : Nat.ble (Nat.succ j) l with
    | false =>
      have hl : ¬ j < l := fun h2 => by rw [Nat.ble_eq_true_of_le h2] at hb; cases hb
      refine ih _ _ fun w hlt hw => hk _ (by simp only [V.cl, List.length_append, digs_length]; have : j - l < t.cl.length := hlt; omega) ?_
      simp only [V.cl, hw]
      rw [List.set_append_right _ _ (by rw [digs_length]; omega), digs_length]; rfl
    | true =>
      have hl : j < l := Nat.le_of_ble_eq_true hb
      refine scK_ok (P := fun r => Agr r q) (slow hl) fun g' m hv _ => ?_
      cases hg : Nat.beq g g' with
      | false => exact slow hl
      | true =>
        obtain rfl := Nat.eq_of_beq_eq_true hg
        cases hm : Nat.ble m 18446744073709551615 with
        | false => exact slow hl
        | true =>
          have hm' := Nat.le_of_ble_eq_true hm
          refine hk _ (by simp only [V.cl, List.length_append, digs_length]; omega) ?_
          simp only [V.cl]
          rw [← digs_set g l n j m (by omega), hv, List.set_append_left _ _ (by rw [digs_length]; exact hl)]
  · have : setK v d w j k = d := congrFun (congrFun (h0 (fun (_ : Nat) (_ : V → FR) => d) _ _) j) k
    rw [this]; exact hd

noncomputable def nnZ : V → FR → (Nat → FR) → FR := @V.rec (fun _ => FR → (Nat → FR) → FR) (fun y d f => ifB (Nat.ble 9223372036854775808 y) d (f (Nat.sub y 9223372036854775808))) (fun _ d _ => d) (fun _ y _ f => f y) (fun _ _ d _ => d) (fun _ d _ => d) (fun _ _ _ d _ => d) (fun d _ => d) (fun _ _ _ _ d _ => d) (fun _ _ d _ => d) (fun d _ => d) (fun _ _ d _ => d) (fun _ _ _ _ d _ => d) (fun _ _ _ d _ => d) (fun d _ => d) (fun _ _ _ d _ => d) (fun d _ => d) (fun _ _ d _ => d) (fun _ _ d _ => d) (fun d _ => d) (fun _ _ _ _ d _ => d) (fun _ _ _ _ _ d _ => d) (fun d _ => d) (fun d _ => d) (fun d _ => d) (fun _ _ d _ => d) (fun _ _ d _ => d)
theorem nnZ_ok {v : V} {r : Option AV} (hv : v.val r) {d : FR} {f : Nat → FR} (hd : Agr d q) (hf : ∀ (k : IntKind) (n : Nat), r = some (.int k n) → Agr (f n) q) : Agr (nnZ v d f) q := by
  have h := shK_ok hv hd hf
  cases v <;> exact h
noncomputable def idZc : V → Nat → FR → (Nat → FR) → FR := @V.rec (fun _ => Nat → FR → (Nat → FR) → FR) (fun y n d f => ifB (Nat.ble 9223372036854775808 y) d (ifB (Nat.ble (Nat.succ (Nat.sub y 9223372036854775808)) n) d (f (Nat.sub y 9223372036854775808)))) (fun _ _ d _ => d) (fun _ y n d f => ifB (Nat.ble (Nat.succ y) n) d (f y)) (fun _ _ _ d _ => d) (fun _ _ d _ => d) (fun _ _ _ _ d _ => d) (fun _ d _ => d) (fun _ _ _ _ _ d _ => d) (fun _ _ _ d _ => d) (fun _ d _ => d) (fun _ _ _ d _ => d) (fun _ _ _ _ _ d _ => d) (fun _ _ _ _ d _ => d) (fun _ d _ => d) (fun _ _ _ _ d _ => d) (fun _ d _ => d) (fun _ _ _ d _ => d) (fun _ _ _ d _ => d) (fun _ d _ => d) (fun _ _ _ _ _ d _ => d) (fun _ _ _ _ _ _ d _ => d) (fun _ d _ => d) (fun _ d _ => d) (fun _ d _ => d) (fun _ _ _ d _ => d) (fun _ _ _ d _ => d)
noncomputable def idZ (v : V) (n : Nat) (d : FR) (f : Nat → FR) : FR := idZc v n d f
theorem idZ_eq (v : V) (n : Nat) (d : FR) (f : Nat → FR) : idZ v n d f = nnZ v d fun j => ifB (Nat.ble (Nat.succ j) n) d (f j) := by cases v <;> rfl
theorem idZ_ok {v : V} {r : Option AV} (hv : v.val r) {n : Nat} {d : FR} {f : Nat → FR} (hd : Agr d q) (hf : ∀ (k : IntKind) (j : Nat), r = some (.int k j) → j < n → Agr (f j) q) : Agr (idZ v n d f) q := by
  rw [idZ_eq]
  refine nnZ_ok hv hd fun k j hj => ?_
  rw [ifB_ble]
  split
  · rename_i h; exact hf k j hj h
  · exact hd

noncomputable def haKc : V → V → (V → FR) → FR := @V.rec (fun _ => V → (V → FR) → FR) (fun _ v κ => κ v) (fun _ v κ => κ v) (fun _ _ v κ => κ v) (fun _ _ v κ => κ v) (fun _ v κ => κ v) (fun _ _ _ v κ => κ v) (fun v κ => κ v) (fun _ _ _ _ v κ => κ v) (fun _ _ v κ => κ v) (fun v κ => κ v) (fun _ _ v κ => κ v) (fun _ _ _ _ v κ => κ v) (fun _ _ _ v κ => κ v) (fun v κ => κ v) (fun _ _ _ v κ => κ v) (fun v κ => κ v) (fun _ _ v κ => κ v) (fun _ _ v κ => κ v) (fun _ _ => .bad) (fun _ _ _ _ _ _ => .bad) (fun _ _ _ _ _ _ _ => .bad) (fun _ _ => .bad) (fun _ _ => .bad) (fun _ _ => .bad) (fun _ _ _ _ => .bad) (fun _ _ _ _ => .bad)
noncomputable def haK (v : V) (κ : V → FR) : FR := haKc v v κ
theorem haK_eq (v : V) (κ : V → FR) : haK v κ = vK v .bad (κ v) := by cases v <;> rfl
theorem haK_ok {v : V} {κ : V → FR} (h : v.pv = some v.av → Agr (κ v) q) : Agr (haK v κ) q := by rw [haK_eq]; exact vK_ok (P := fun r => Agr r q) q.bad h
end

def Pv (S : List Nat) : Type := E S → ZH → (V → FR) → FR
def PvOK {S : List Nat} (op : AOp) (p : Pv S) : Prop := ∀ (e : E S) (x : Env) (H : ZH) (κ : V → FR) (q : Pr), H.ok → Rel S e x → (∀ w s, opv x H.heap op = some s → w.den s → Agr (κ w) q) → Agr (p e H κ) q

theorem pv_den {w : V} {a : AV} (h : w.pv = some a) : w.den (.v a) := (V.pv_sl h).2.2.2

/-! ### lists of operands -/
structure La (S : List Nat) where
  run : E S → (V → FR) → FR
noncomputable def argC (S : List Nat) : List Opd → La S
  | [] => ⟨fun _ κ => κ .nil⟩
  | o :: r => ⟨fun e κ => vK ((opd S o).run e) .bad ((argC S r).run e fun t => κ (.one ((opd S o).run e) t))⟩
theorem argC_ok {S : List Nat} {e : E S} {x : Env} (h : Rel S e x) {q : Pr} : ∀ (l : List Opd) {κ : V → FR}, (∀ w vs, allAV x l = some vs → w.cl = vs → Agr (κ w) q) → Agr ((argC S l).run e κ) q
  | [], κ, hk => hk .nil [] rfl rfl
  | o :: r, κ, hk => by
    refine vK_ok (P := fun r => Agr r q) q.bad fun hp => argC_ok h r fun t vs ht hc => hk _ (((opd S o).run e).av :: vs) ?_ (by simp only [V.cl, hc])
    simp only [allAV, opd_val h o _ hp, ht, Option.map_some]

/-! ### the operations -/
section
variable {S : List Nat}
noncomputable def pMv (x : Opd) : Pv S := (fun e _ κ => mvK (opn x) ((opd S x).run e) .bad κ)
theorem pMv_ok (x : Opd) : PvOK (S := S) (.mv x) (pMv x) := fun e xe H κ q _ h hk => by
  refine mvK_ok (P := fun r => Agr r q) (opd_dle h x) q.bad fun w hw hs => hk w _ ?_ hw
  simp only [opv]; exact hs
noncomputable def pPick (c a b : Opd) : Pv S := (fun e _ κ => bK ((opd S c).run e) .bad (haK ((opd S a).run e) κ) (haK ((opd S b).run e) κ))
theorem pPick_ok (c a b : Opd) : PvOK (S := S) (.pick c a b) (pPick c a b) := fun e xe H κ q _ h hk => by
  refine bK_ok (P := fun r => Agr r q) (opd_val h c) q.bad (fun hc => haK_ok fun hp => hk _ _ ?_ (pv_den hp)) (fun hc => haK_ok fun hp => hk _ _ ?_ (pv_den hp))
  · simp only [opv, hc, if_true, opd_val h a _ hp, Option.map_some]
  · simp only [opv, hc, Bool.false_eq_true, if_false, opd_val h b _ hp, Option.map_some]
noncomputable def pBin (op : BinOp) (a b : Opd) : Pv S := (fun e _ κ => binZ op ((opd S a).run e) ((opd S b).run e) κ)
theorem pBin_ok (op : BinOp) (a b : Opd) : PvOK (S := S) (.bin op a b) (pBin op a b) := fun e xe H κ q _ h hk => by
  refine binZ_ok op (opd_val h a) (opd_val h b) fun w r hr hp => hk w (.v r) ?_ (pv_den hp)
  simp only [bin2] at hr
  simp only [opv]
  split at hr
  · rename_i a' b' ha hb; rw [ha, hb]; simp only [hr, Option.map_some]
  · cases hr

noncomputable def allI (ks : List BK) : Bool := @List.rec BK (fun _ => Bool) true (fun k _ ih => @BK.rec (fun _ => Bool) false ih false k) ks
theorem allI_eq : ∀ {ks : List BK}, allI ks = true → ks = List.replicate ks.length .i
  | [], _ => rfl
  | .b :: ks, h => by cases h
  | .i :: ks, h => by
    have := allI_eq (ks := ks) h
    simp only [List.length_cons, List.replicate_succ]
    rw [← this]
  | .s :: ks, h => by cases h
theorem eqCells_digs (k : Nat) (hk : k ≠ 1) : ∀ l n n', eqCells (List.replicate l .i) (digs k l n) (digs k l n') = some (Nat.beq (n % 18446744073709551616 ^ l) (n' % 18446744073709551616 ^ l))
  | 0, n, n' => by simp [eqCells, digs, Nat.mod_one]
  | l + 1, n, n' => by
    have e1 : ∀ n, n % 18446744073709551616 ^ (l + 1) = n % 18446744073709551616 + 18446744073709551616 * (n / 18446744073709551616 % 18446744073709551616 ^ l) := fun n => by
      rw [Nat.pow_succ, Nat.mul_comm, Nat.mod_mul]
    have hc : eqCell .i (scal k (n % 18446744073709551616)) (scal k (n' % 18446744073709551616)) = some (Nat.beq (n % 18446744073709551616) (n' % 18446744073709551616)) := by
      match k, hk with
      | 0, _ =>
        simp only [scal, eqCell, if_true, beq_dec, Option.some.injEq]
        rw [Bool.eq_iff_iff]; simp; omega
      | k + 2, _ =>
        simp only [scal, eqCell, if_true, beq_dec, Option.some.injEq]
        rw [Bool.eq_iff_iff]; simp; omega
    simp only [digs, List.replicate_succ, eqCells, hc, beq_dec, e1]
    have h1 := Nat.mod_lt n (show 18446744073709551616 > 0 from by decide)
    have h2 := Nat.mod_lt n' (show 18446744073709551616 > 0 from by decide)
    by_cases h : n % 18446744073709551616 = n' % 18446744073709551616
    · simp only [h, decide_true, eqCells_digs k hk l, beq_dec, Option.some.injEq, decide_eq_decide]; omega
    · simp only [h, decide_false, Option.some.injEq]
      symm
      rw [decide_eq_false_iff_not]; omega
noncomputable def eqS (ks : List BK) (a b : V) (f : Bool → FR) : FR := @Option.rec Bool (fun _ => FR) .bad f (eqAV (.agg ks) (.agg a.cl) (.agg b.cl))
noncomputable def eqA (ks : List BK) (a b : V) (f : Bool → FR) : FR := clRec (eqS ks a b f) (fun _ _ _ => eqS ks a b f) (fun k l n t _ => clRec (eqS ks a b f) (fun _ _ _ => eqS ks a b f)
  (fun k' l' n' t' _ => ifB (allI ks) (eqS ks a b f) (ifB (Nat.beq (List.length ks) l) (eqS ks a b f) (ifB (Nat.beq l' l) (eqS ks a b f) (ifB (Nat.beq k k') (eqS ks a b f) (@Bool.rec (fun _ => FR)
    (clRec (clRec (f (Nat.beq (Nat.mod n (Nat.shiftLeft 1 (Nat.mul 64 l))) (Nat.mod n' (Nat.shiftLeft 1 (Nat.mul 64 l))))) (fun _ _ _ => eqS ks a b f) (fun _ _ _ _ _ => eqS ks a b f) t') (fun _ _ _ => eqS ks a b f) (fun _ _ _ _ _ => eqS ks a b f) t) (eqS ks a b f) (Nat.beq k 1)))))) b) a
theorem eqA_ok {q : Pr} {ks : List BK} {a b : V} {f : Bool → FR} (h : ∀ r, eqAV (.agg ks) (.agg a.cl) (.agg b.cl) = some r → Agr (f r) q) : Agr (eqA ks a b f) q := by
  have sl : Agr (eqS ks a b f) q := by
    simp only [eqS]
    cases hr : eqAV (.agg ks) (.agg a.cl) (.agg b.cl) with
    | none => exact q.bad
    | some r => exact h r hr
  revert h sl
  generalize hs : eqS ks a b f = s
  unfold eqA
  rw [hs]
  clear hs
  refine cl_cases (P := fun a => (∀ r, eqAV (.agg ks) (.agg a.cl) (.agg b.cl) = some r → Agr (f r) q) → Agr s q → Agr (clRec s (fun _ _ _ => s) (fun k l n t _ => clRec s (fun _ _ _ => s)
  (fun k' l' n' t' _ => ifB (allI ks) s (ifB (Nat.beq (List.length ks) l) s (ifB (Nat.beq l' l) s (ifB (Nat.beq k k') s (@Bool.rec (fun _ => FR)
    (clRec (clRec (f (Nat.beq (Nat.mod n (Nat.shiftLeft 1 (Nat.mul 64 l))) (Nat.mod n' (Nat.shiftLeft 1 (Nat.mul 64 l))))) (fun _ _ _ => s) (fun _ _ _ _ _ => s) t') (fun _ _ _ => s) (fun _ _ _ _ _ => s) t) s (Nat.beq k 1)))))) b) a) q) (fun _ _ _ _ sl => sl) (fun k l n t _ h sl => ?_) (fun v h0 _ _ sl => by rw [h0]; exact sl) a
  revert h
  refine cl_cases (P := fun b => (∀ r, eqAV (.agg ks) (.agg (V.run k l n t).cl) (.agg b.cl) = some r → Agr (f r) q) → Agr (clRec s (fun _ _ _ => s)
  (fun k' l' n' t' _ => ifB (allI ks) s (ifB (Nat.beq (List.length ks) l) s (ifB (Nat.beq l' l) s (ifB (Nat.beq k k') s (@Bool.rec (fun _ => FR)
    (clRec (clRec (f (Nat.beq (Nat.mod n (Nat.shiftLeft 1 (Nat.mul 64 l))) (Nat.mod n' (Nat.shiftLeft 1 (Nat.mul 64 l))))) (fun _ _ _ => s) (fun _ _ _ _ _ => s) t') (fun _ _ _ => s) (fun _ _ _ _ _ => s) t) s (Nat.beq k 1)))))) b) q) (fun _ _ _ _ => sl) (fun k' l' n' t' _ h => ?_) (fun v h0 _ _ => by rw [h0]; exact sl) b
  show Agr (ifB (allI ks) s (ifB (Nat.beq (List.length ks) l) s (ifB (Nat.beq l' l) s (ifB (Nat.beq k k') s (@Bool.rec (fun _ => FR)
    (clRec (clRec (f (Nat.beq (Nat.mod n (Nat.shiftLeft 1 (Nat.mul 64 l))) (Nat.mod n' (Nat.shiftLeft 1 (Nat.mul 64 l))))) (fun _ _ _ => s) (fun _ _ _ _ _ => s) t') (fun _ _ _ => s) (fun _ _ _ _ _ => s) t) s (Nat.beq k 1)))))) q
  refine ifB_ok (P := fun r => Agr r q) sl fun hI => ?_
  rw [ifB_beq, ifB_beq, ifB_beq]
  by_cases h1 : ks.length = l
  · by_cases h2 : l' = l
    · by_cases h3 : k = k'
      · rw [if_pos h1, if_pos h2, if_pos h3]
        subst h2 h3
        cases hk : Nat.beq k 1 with
        | true => exact sl
        | false =>
          have hk' := Nat.ne_of_beq_eq_false hk
          revert h
          refine cl_cases (P := fun t => (∀ r, eqAV (.agg ks) (.agg (V.run k l' n t).cl) (.agg (V.run k l' n' t').cl) = some r → Agr (f r) q) → Agr (clRec (clRec (f (Nat.beq (Nat.mod n (Nat.shiftLeft 1 (Nat.mul 64 l'))) (Nat.mod n' (Nat.shiftLeft 1 (Nat.mul 64 l'))))) (fun _ _ _ => s) (fun _ _ _ _ _ => s) t') (fun _ _ _ => s) (fun _ _ _ _ _ => s) t) q) (fun _ _ _ _ => sl) (fun _ _ _ _ _ _ => sl) (fun v h0 hv h => ?_) t
          rw [h0]
          revert h
          refine cl_cases (P := fun t' => (∀ r, eqAV (.agg ks) (.agg (V.run k l' n v).cl) (.agg (V.run k l' n' t').cl) = some r → Agr (f r) q) → Agr (clRec (f (Nat.beq (Nat.mod n (Nat.shiftLeft 1 (Nat.mul 64 l'))) (Nat.mod n' (Nat.shiftLeft 1 (Nat.mul 64 l'))))) (fun _ _ _ => s) (fun _ _ _ _ _ => s) t') q) (fun _ _ _ _ => sl) (fun _ _ _ _ _ _ => sl) (fun v' h0' hv' h => ?_) t'
          rw [h0']
          refine h _ ?_
          simp only [eqAV, V.cl, hv, hv', List.append_nil, digs_length, h1, and_self, if_true]
          rw [allI_eq hI, h1, eqCells_digs k hk', shl_pow, Nat.one_mul]; rfl
      · rw [if_pos h1, if_pos h2, if_neg h3]; exact sl
    · rw [if_pos h1, if_neg h2]; exact sl
  · rw [if_neg h1]; exact sl

noncomputable def xorB (neg : Bool) (r : Bool) : Bool := @Bool.rec (fun _ => Bool) r (zNot r) neg
theorem xorB_eq (neg r : Bool) : xorB neg r = (r != neg) := by cases neg <;> cases r <;> rfl
noncomputable def nilF (x : FR) (c : V) : FR := clRec x (fun _ _ _ => .bad) (fun _ _ _ _ _ => .bad) c
theorem nilF_ok {q : Pr} {x : FR} {c : V} (h : c.cl = [] → Agr x q) : Agr (nilF x c) q := by
  refine cl_cases (P := fun c => (c.cl = [] → Agr x q) → Agr (nilF x c) q) (fun _ _ _ _ => q.bad) (fun _ _ _ _ _ _ => q.bad) (fun v h0 h1 h => ?_) c h
  have : nilF x v = x := h0 _ _ _
  rw [this]; exact h h1
noncomputable def eqZ (neg : Bool) (k : EqK) (a b : V) (κ : V → FR) : FR := @EqK.rec (fun _ => FR)
  (boK a .bad fun x => boK b .bad fun y => κ (.b (xorB neg (@Bool.rec (fun _ => Bool) (zNot y) y x))))
  (fun ks => agK a .bad fun c => agK b .bad fun c' => eqA ks c c' fun r => κ (.b (xorB neg r)))
  (npK a .bad (npK b .bad (κ (.b (xorB neg true))) (κ (.b (xorB neg false)))) (npK b .bad (κ (.b (xorB neg false))) .bad))
  (slcK' b .bad (fun nl c => @Bool.rec (fun _ => FR) .bad (nilF (slcK' a .bad (fun n _ => κ (.b (xorB neg n))) (κ (.b (xorB neg false))) fun _ _ _ _ => .bad) c) nl) .bad fun _ _ _ _ => .bad)
  (nfK b .bad (nfK a .bad (κ (.b (xorB neg true))) (κ (.b (xorB neg false)))) .bad)
  (fcK b .bad (fun _ _ => .bad) (fcK a .bad (fun _ _ => κ (.b (xorB neg false))) (κ (.b (xorB neg true)))))
  .bad k
theorem eqZ_ok {q : Pr} (neg : Bool) (k : EqK) {a b : V} {ra rb : Option AV} (ha : a.val ra) (hb : b.val rb) {κ : V → FR}
    (h : ∀ u w r, ra = some u → rb = some w → eqAV k u w = some r → Agr (κ (.b (xorB neg r))) q) : Agr (eqZ neg k a b κ) q := by
  cases k with
  | bool =>
    refine boK_ok (P := fun r => Agr r q) ha q.bad fun x hx => boK_ok (P := fun r => Agr r q) hb q.bad fun y hy => ?_
    have := h _ _ (x == y) hx hy rfl
    cases x <;> cases y <;> exact this
  | agg ks =>
    refine agK_ok (P := fun r => Agr r q) ha q.bad fun c hc => agK_ok (P := fun r => Agr r q) hb q.bad fun c' hc' => eqA_ok fun r hr => h _ _ r hc hc' hr
  | ptr =>
    refine npK_ok (P := fun r => Agr r q) ha q.bad (fun hx => npK_ok (P := fun r => Agr r q) hb q.bad (fun hy => h _ _ true hx hy rfl) (fun hy => ?_)) (fun hx => npK_ok (P := fun r => Agr r q) hb q.bad (fun hy => ?_) (fun _ => q.bad))
    · rcases hy with ⟨_, hy⟩ | ⟨_, _, hy⟩ | ⟨_, _, _, _, hy⟩ <;> exact h _ _ false hx hy rfl
    · rcases hx with ⟨_, hx⟩ | ⟨_, _, hx⟩ | ⟨_, _, _, _, hx⟩ <;> exact h _ _ false hx hy rfl
  | slice =>
    refine slcK'_ok (P := fun r => Agr r q) hb q.bad (fun nl c hc => ?_) (fun _ => q.bad) (fun _ _ _ _ _ => q.bad)
    cases nl with
    | false => exact q.bad
    | true =>
      refine nilF_ok fun he => ?_
      rw [he] at hc
      exact slcK'_ok (P := fun r => Agr r q) ha q.bad (fun n c' hc' => h _ _ n hc' hc rfl) (fun hc' => h _ _ false hc' hc rfl) (fun _ _ _ _ _ => q.bad)
  | fn =>
    refine nfK_ok (P := fun r => Agr r q) hb q.bad (fun hy => nfK_ok (P := fun r => Agr r q) ha q.bad (fun hx => h _ _ true hx hy rfl) (fun ⟨_, _, hx⟩ => h _ _ false hx hy rfl)) (fun _ => q.bad)
  | iface =>
    refine fcK_ok (P := fun r => Agr r q) hb q.bad (fun _ _ _ => q.bad) (fun hy => fcK_ok (P := fun r => Agr r q) ha q.bad (fun _ _ hx => h _ _ false hx hy rfl) (fun hx => h _ _ true hx hy rfl))
  | map => exact q.bad
noncomputable def pEq (neg : Bool) (k : EqK) (a b : Opd) : Pv S := (fun e _ κ => eqZ neg k ((opd S a).run e) ((opd S b).run e) κ)
theorem pEq_ok (neg : Bool) (k : EqK) (a b : Opd) : PvOK (S := S) (.eq neg k a b) (pEq neg k a b) := fun e xe H κ q _ h hk => by
  refine eqZ_ok neg k (opd_val h a) (opd_val h b) fun u w r hu hw hr => hk _ (.v (.bool (r != neg))) ?_ ?_
  · simp only [opv, hu, hw, hr, Option.map_some]
  · rw [xorB_eq]; rfl

/-! numbers -/
noncomputable def slowU (op : UnOp) (a : V) (κ : V → FR) : FR := vK a .bad (@Option.rec AV (fun _ => FR) .bad (fun r => κ (ofAV r)) (unAV op a.av))
theorem slowU_ok {q : Pr} {op : UnOp} {a : V} {ra : Option AV} (ha : a.val ra) {κ : V → FR} (h : ∀ u, ra = some u → Ans κ q (unAV op u)) : Agr (slowU op a κ) q := by
  refine vK_ok (P := fun r => Agr r q) q.bad fun h1 => ?_
  have h' := h _ (ha _ h1)
  cases hr : unAV op a.av with
  | none => exact q.bad
  | some r => exact h' _ _ hr (ofAV_pv r).1
noncomputable def unZ (op : UnOp) (a : V) (κ : V → FR) : FR := @UnOp.rec (fun _ => FR) (slowU .neg a κ) (slowU .xor a κ) (boK a .bad fun x => κ (.b (zNot x))) (slowU .plus a κ) op
noncomputable def pUn (op : UnOp) (a : Opd) : Pv S := (fun e _ κ => unZ op ((opd S a).run e) κ)
theorem pUn_ok (op : UnOp) (a : Opd) : PvOK (S := S) (.un op a) (pUn op a) := fun e xe H κ q _ h hk => by
  have hs : ∀ u, xe.av a = some u → Ans κ q (unAV op u) := fun u hu w r hr hp => hk w (.v r) (by simp only [opv, hu, hr, Option.map_some]) (pv_den hp)
  have ha := opd_val h a
  cases op <;> first
    | exact slowU_ok ha hs
    | exact boK_ok (P := fun r => Agr r q) ha q.bad fun x hx => hs _ hx (.b (zNot x)) _ rfl (by rw [zNot_eq]; rfl)

noncomputable def slowC (k : IntKind) (a : V) (κ : V → FR) : FR := vK a .bad (@Option.rec Int (fun _ => FR) .bad (fun r => κ (ofAV (.int k (k.wrap r)))) (getI a.av))
def kcd (k : IntKind) : Nat := match k with
  | .i64 => 0
  | .u8 => 2
  | .u16 => 3
  | .u32 => 4
  | .u64 => 5
  | _ => 1
theorem kcd_eq {k : IntKind} {c : Nat} (h : kcd k = c + 2) : k = kk c := by
  cases k <;> simp only [kcd] at h <;> first | (obtain rfl : c = 0 := (by omega); rfl) | (obtain rfl : c = 1 := (by omega); rfl) | (obtain rfl : c = 2 := (by omega); rfl) | (obtain rfl : c = 3 := (by omega); rfl) | omega
noncomputable def cviZ (k : IntKind) (c : Nat) (a : V) (κ : V → FR) : FR := @Nat.rec (fun _ => FR)
  (numK a (slowC k a κ) (fun n => ifB (Nat.ble n 18446744073709551615) (slowC k a κ) (κ (.i n))) (fun _ n => ifB (Nat.ble n 9223372036854775807) (slowC k a κ) (κ (.i (Nat.add n 9223372036854775808)))) (fun _ _ => slowC k a κ))
  (fun c1 _ => @Nat.rec (fun _ => FR) (slowC k a κ)
    (fun c2 _ => numK a (slowC k a κ) (fun n => ifB (Nat.ble 9223372036854775808 n) (slowC k a κ) (κ (.u c2 (Nat.mod (Nat.sub n 9223372036854775808) (mK c2))))) (fun _ n => κ (.u c2 (Nat.mod n (mK c2)))) (fun _ _ => slowC k a κ)) c1) c
noncomputable def pCvi (k : IntKind) (a : Opd) : Pv S := (fun e _ κ => cviZ k (kcd k) ((opd S a).run e) κ)
theorem pCvi_ok (k : IntKind) (a : Opd) : PvOK (S := S) (.cvi k a) (pCvi k a) := fun e xe H κ q _ h hk => by
  have ha := opd_val h a
  have hs : ∀ k' n, xe.av a = some (.int k' n) → Ans κ q (some (.int k (k.wrap n))) := fun k' n hu w r hr hp => hk w (.v r) (by simp only [opv, hu]; simp only [Option.some.injEq] at hr; rw [hr]) (pv_den hp)
  have sl : Agr (slowC k ((opd S a).run e) κ) q := by
    refine vK_ok (P := fun r => Agr r q) q.bad fun h1 => ?_
    have h2 := ha _ h1
    revert h2
    generalize ((opd S a).run e).av = u
    intro h2
    cases u <;> try exact q.bad
    exact hs _ _ h2 _ _ rfl (ofAV_pv _).1
  show Agr (cviZ k (kcd k) ((opd S a).run e) κ) q
  match hc : kcd k with
  | 0 =>
    obtain rfl : k = .i64 := by cases k <;> simp [kcd] at hc; rfl
    refine numK_ok (P := fun r => Agr r q) ha sl (fun n hn => ?_) (fun k' n hn => ?_) (fun _ _ _ => sl)
    · rw [ifB_ble]
      split
      · rename_i h1
        have h1' : n ≤ 18446744073709551615 := h1
        refine hs _ _ hn (.i n) _ rfl ?_
        rw [wrap64 (by omega) (by omega)]; rfl
      · exact sl
    · rw [ifB_ble]
      split
      · rename_i h1
        refine hs _ _ hn (.i _) _ rfl ?_
        have h1' : n ≤ 9223372036854775807 := h1
        rw [wrap64 (by omega) (by omega)]
        simp only [V.pv, V.av, Option.some.injEq, AV.int.injEq, true_and]
        show (((n + 9223372036854775808 : Nat) : Int) - 9223372036854775808) = n
        omega
      · exact sl
  | 1 => exact sl
  | c + 2 =>
    obtain rfl := kcd_eq hc
    refine numK_ok (P := fun r => Agr r q) ha sl (fun n hn => ?_) (fun k' n hn => hs _ _ hn (.u c _) _ rfl ?_) (fun _ _ _ => sl)
    · rw [ifB_ble]
      split
      · rename_i h1
        refine hs _ _ hn (.u c _) _ rfl ?_
        obtain ⟨u, rfl⟩ := Nat.exists_eq_add_of_le h1
        have e1 : Nat.sub (9223372036854775808 + u) 9223372036854775808 = u := Nat.add_sub_cancel_left ..
        have e3 : (((9223372036854775808 + u : Nat) : Int) - 9223372036854775808) = (u : Int) := by omega
        rw [e1, e3, wrapUn]; rfl
      · exact sl
    · rw [wrapUn]; rfl
end
end Ey

namespace Ey
open Go (IntKind FloatKind BinOp UnOp)

section
variable {S : List Nat}
/-! ### reads -/
noncomputable def lvR (S : List Nat) (s : Nat) (e : E S) (d : FR) (f : V → FR) : FR := lvK' ((acc S s).run e) d f
theorem lvR_ok {q : Pr} {e : E S} {x : Env} (h : Rel S e x) {s : Nat} {d : FR} {f : V → FR} (hd : Agr d q) (hf : ∀ c, x.get s = .lv c.cl → Agr (f c) q) : Agr (lvR S s e d f) q := by
  refine lvK'_ok (P := fun r => Agr r q) (s := x.get s) ?_ hd hf
  rw [acc_eq]; exact h s
noncomputable def ldZ (S : List Nat) (sz : Nat) (ag : Bool) (n : Nat) (v : V) (e : E S) (H : ZH) (κ : V → FR) : FR := adK n v .bad
  (fun s o => lvR S s e .bad fun c => paK sz ag c o .bad fun w => haK w κ)
  (fun y => ncK y .bad fun m => ifB (Nat.beq m sz) .bad (peK sz ag y 0 .bad fun w => haK w κ))
  (fun i o => obK i .bad (fun c => paK sz ag c o .bad fun w => haK w κ) H.bl)
  (fun i ver j o => arK i .bad (fun _ _ len c => ifB (Nat.beq len ver) .bad (nthZ .bad (fun y => peK sz ag y o .bad fun w => haK w κ) c j)) H.bl)
theorem ldZ_ok {q : Pr} {e : E S} {x : Env} (h : Rel S e x) {H : ZH} (hH : H.ok) {sz : Nat} {ag : Bool} {n : Nat} {v : V} {s : Sl} (hv : v.dle n s) {κ : V → FR}
    (hk : ∀ w, ldS x H.heap sz ag s = some w.av → w.pv = some w.av → Agr (κ w) q) : Agr (ldZ S sz ag n v e H κ) q := by
  refine adK_ok (P := fun r => Agr r q) hv q.bad (fun t o hs => lvR_ok h q.bad fun c hc => paK_ok (P := fun r => Agr r q) q.bad fun w hw => haK_ok fun hp => hk w ?_ hp)
    (fun y hs => ncK_ok (P := fun r => Agr r q) q.bad fun hy => ?_)
    (fun i o hs => obK_ok (P := fun r => Agr r q) q.bad _ hH fun c hc => paK_ok (P := fun r => Agr r q) q.bad fun w hw => haK_ok fun hp => hk w ?_ hp)
    (fun i ver j o hs => arK_ok (P := fun r => Agr r q) q.bad _ hH fun nl z c hc => ?_)
  · rw [hs]; simp only [ldS, hc, hw]
  · rw [ifB_beq]
    split
    · rename_i hl
      refine peK_ok (P := fun r => Agr r q) q.bad fun w hy hw => haK_ok fun hp => hk w ?_ hp
      rw [hs]; simp only [ldS, hl, if_true, hw]
    · exact q.bad
  · rw [hs]
    have : H.heap.get i = some (.obj c.cl) := hc
    simp only [ldS, this, hw]
  · rw [ifB_beq]
    split
    · rename_i hl
      refine nthZ_ok (P := fun r => Agr r q) q.bad c j fun y hy => peK_ok (P := fun r => Agr r q) q.bad fun w hyp hw => haK_ok fun hp => hk w ?_ hp
      rw [hs]
      have : H.heap.get i = some (.arr nl z c.cl) := hc
      simp only [ldS, this, hl, if_true, hy, hw]
    · exact q.bad
noncomputable def pLd (sz : Nat) (ag : Bool) (a : Opd) : Pv S := (fun e H κ => ldZ S sz ag (opn a) ((opd S a).run e) e H κ)
theorem pLd_ok (sz : Nat) (ag : Bool) (a : Opd) : PvOK (S := S) (.ld sz ag a) (pLd sz ag a) := fun e xe H κ q hH h hk => by
  refine ldZ_ok h hH (opd_dle h a) fun w hw hp => hk w (.v w.av) ?_ (pv_den hp)
  simp only [opv, hw, Option.map_some]
noncomputable def pLdl (sz : Nat) (ag : Bool) (s : Nat) : Pv S := (fun e _ κ => lvR S s e .bad fun c => paK sz ag c 0 .bad fun w => haK w κ)
theorem pLdl_ok (sz : Nat) (ag : Bool) (s : Nat) : PvOK (S := S) (.ldl sz ag s) (pLdl sz ag s) := fun e xe H κ q hH h hk => by
  refine lvR_ok h q.bad fun c hc => paK_ok (P := fun r => Agr r q) q.bad fun w hw => haK_ok fun hp => hk w (.v w.av) ?_ (pv_den hp)
  simp only [opv, hc, hw, Option.map_some]
noncomputable def qLdic : V → Nat → Bool → (V → FR) → FR := @V.rec (fun _ => Nat → Bool → (V → FR) → FR) (fun _ _ _ _ => .bad) (fun _ _ _ _ => .bad) (fun _ _ _ _ _ => .bad) (fun _ _ _ _ _ => .bad) (fun _ _ _ _ => .bad) (fun _ _ _ _ _ _ => .bad) (fun _ _ _ => .bad) (fun _ _ _ _ _ _ _ => .bad) (fun y _ sz ag κ => ncK y .bad fun m => ifB (Nat.beq m sz) .bad (peK sz ag y 0 .bad fun w => haK w κ)) (fun _ _ _ => .bad) (fun _ _ _ _ _ => .bad) (fun _ _ _ _ _ _ _ => .bad) (fun _ _ _ _ _ _ => .bad) (fun _ _ _ => .bad) (fun _ _ _ _ _ _ => .bad) (fun _ _ _ => .bad) (fun _ _ _ _ _ => .bad) (fun _ _ _ _ _ => .bad) (fun _ _ _ => .bad) (fun _ _ _ _ _ _ _ => .bad) (fun _ _ _ _ _ _ _ _ => .bad) (fun _ _ _ => .bad) (fun _ _ _ => .bad) (fun _ _ _ => .bad) (fun _ _ _ _ _ => .bad) (fun _ _ _ _ _ => .bad)
noncomputable def qLdi (sz : Nat) (ag : Bool) (_ : Nat) (a : V) (κ : V → FR) : FR := qLdic a sz ag κ
theorem qLdi_eq (sz : Nat) (ag : Bool) (n : Nat) (a : V) (κ : V → FR) : qLdi sz ag n a κ = (adK n a .bad (fun _ _ => .bad)
  (fun y => ncK y .bad fun m => ifB (Nat.beq m sz) .bad (peK sz ag y 0 .bad fun w => haK w κ)) (fun _ _ => .bad) (fun _ _ _ _ => .bad)) := by cases a <;> rfl
noncomputable def pLdi (sz : Nat) (ag : Bool) (a : Opd) : Pv S := (fun e _ κ => qLdi sz ag (opn a) ((opd S a).run e) κ)
theorem pLdi_ok (sz : Nat) (ag : Bool) (a : Opd) : PvOK (S := S) (.ldi sz ag a) (pLdi sz ag a) := fun e xe H κ q hH h hk => by
  show Agr (qLdi sz ag (opn a) ((opd S a).run e) κ) q
  rw [qLdi_eq]
  refine adK_ok (P := fun r => Agr r q) (opd_dle h a) q.bad (fun _ _ _ => q.bad) (fun y hs => ncK_ok (P := fun r => Agr r q) q.bad fun hy => ?_) (fun _ _ _ => q.bad) (fun _ _ _ _ _ => q.bad)
  rw [ifB_beq]
  split
  · rename_i hl
    refine peK_ok (P := fun r => Agr r q) q.bad fun w hy hw => haK_ok fun hp => hk w (.v w.av) ?_ (pv_den hp)
    simp only [opv, hs, hl, if_true, hw, Option.map_some]
  · exact q.bad
noncomputable def pLdp (sz : Nat) (ag : Bool) (a : Opd) : Pv S := (fun e _ κ => adK (opn a) ((opd S a).run e) .bad (fun s o => lvR S s e .bad fun c => paK sz ag c o .bad fun w => haK w κ) (fun _ => .bad) (fun _ _ => .bad) (fun _ _ _ _ => .bad))
theorem pLdp_ok (sz : Nat) (ag : Bool) (a : Opd) : PvOK (S := S) (.ldp sz ag a) (pLdp sz ag a) := fun e xe H κ q hH h hk => by
  show Agr (adK (opn a) ((opd S a).run e) .bad (fun s o => lvR S s e .bad fun c => paK sz ag c o .bad fun w => haK w κ) (fun _ => .bad) (fun _ _ => .bad) (fun _ _ _ _ => .bad)) q
  refine adK_ok (P := fun r => Agr r q) (opd_dle h a) q.bad (fun t o hs => lvR_ok h q.bad fun c hc => paK_ok (P := fun r => Agr r q) q.bad fun w hw => haK_ok fun hp => hk w (.v w.av) ?_ (pv_den hp)) (fun _ _ => q.bad) (fun _ _ _ => q.bad) (fun _ _ _ _ _ => q.bad)
  simp only [opv, hs, ldS, hc, hw, Option.map_some]
noncomputable def qLdoc : V → Nat → Bool → ZH → (V → FR) → FR := @V.rec (fun _ => Nat → Bool → ZH → (V → FR) → FR) (fun _ _ _ _ _ => .bad) (fun _ _ _ _ _ => .bad) (fun _ _ _ _ _ _ => .bad) (fun _ _ _ _ _ _ => .bad) (fun _ _ _ _ _ => .bad) (fun _ _ _ _ _ _ _ => .bad) (fun _ _ _ _ => .bad) (fun _ _ _ _ _ _ _ _ => .bad) (fun _ _ _ _ _ _ => .bad) (fun _ _ _ _ => .bad) (fun i o sz ag H κ => ifB (Nat.ble (Nat.succ i) H.next) .bad (obK i .bad (fun c => paK sz ag c o .bad fun w => haK w κ) H.bl)) (fun _ _ _ _ _ _ _ _ => .bad) (fun _ _ _ _ _ _ _ => .bad) (fun _ _ _ _ => .bad) (fun _ _ _ _ _ _ _ => .bad) (fun _ _ _ _ => .bad) (fun _ _ _ _ _ _ => .bad) (fun _ _ _ _ _ _ => .bad) (fun _ _ _ _ => .bad) (fun _ _ _ _ _ _ _ _ => .bad) (fun _ _ _ _ _ _ _ _ _ => .bad) (fun _ _ _ _ => .bad) (fun _ _ _ _ => .bad) (fun _ _ _ _ => .bad) (fun _ _ _ _ _ _ => .bad) (fun _ _ _ _ _ _ => .bad)
noncomputable def qLdo (sz : Nat) (ag : Bool) (_ : Nat) (a : V) (H : ZH) (κ : V → FR) : FR := qLdoc a sz ag H κ
theorem qLdo_eq (sz : Nat) (ag : Bool) (n : Nat) (a : V) (H : ZH) (κ : V → FR) : qLdo sz ag n a H κ = (adK n a .bad (fun _ _ => .bad) (fun _ => .bad)
  (fun i o => ifB (Nat.ble (Nat.succ i) H.next) .bad (obK i .bad (fun c => paK sz ag c o .bad fun w => haK w κ) H.bl)) (fun _ _ _ _ => .bad)) := by cases a <;> rfl
noncomputable def pLdo (sz : Nat) (ag : Bool) (a : Opd) : Pv S := (fun e H κ => qLdo sz ag (opn a) ((opd S a).run e) H κ)
theorem pLdo_ok (sz : Nat) (ag : Bool) (a : Opd) : PvOK (S := S) (.ldo sz ag a) (pLdo sz ag a) := fun e xe H κ q hH h hk => by
  show Agr (qLdo sz ag (opn a) ((opd S a).run e) H κ) q
  rw [qLdo_eq]
  refine adK_ok (P := fun r => Agr r q) (opd_dle h a) q.bad (fun _ _ _ => q.bad) (fun _ _ => q.bad) (fun i o hs => ?_) (fun _ _ _ _ _ => q.bad)
  rw [ifB_ble]
  split
  · rename_i hn
    refine obK_ok (P := fun r => Agr r q) q.bad _ hH fun c hc => paK_ok (P := fun r => Agr r q) q.bad fun w hw => haK_ok fun hp => hk w (.v w.av) ?_ (pv_den hp)
    have h1 : H.heap.get i = some (.obj c.cl) := hc
    have h2 : i < H.heap.next := hn
    simp only [opv, hs, h2, if_true, ldS, h1, hw, Option.map_some]
  · exact q.bad

/-! ### addresses -/
noncomputable def adZc : V → Nat → Nat → Bool → Nat → (V → FR) → FR := @V.rec (fun _ => Nat → Nat → Bool → Nat → (V → FR) → FR) (fun _ _ _ _ _ _ => .bad) (fun _ _ _ _ _ _ => .bad) (fun _ _ _ _ _ _ _ => .bad) (fun _ _ _ _ _ _ _ => .bad) (fun _ _ _ _ _ _ => .bad) (fun _ _ _ _ _ _ _ _ => .bad) (fun _ _ _ _ _ => .bad) (fun _ _ _ _ _ _ _ _ _ => .bad) (fun y _ off sz ag _ κ => peK sz ag y off .bad fun w => κ (.im w)) (fun _ _ _ _ _ => .bad) (fun i o off _ _ _ κ => κ (.pt i (Nat.add o off))) (fun i ver j o off _ _ _ κ => κ (.ap i ver j (Nat.add o off))) (fun _ _ _ _ _ _ _ _ => .bad) (fun _ _ _ _ _ => .bad) (fun _ _ _ _ _ _ _ _ => .bad) (fun _ _ _ _ _ => .bad) (fun _ _ _ _ _ _ _ => .bad) (fun _ _ _ _ _ _ _ => .bad) (fun _ _ _ _ _ => .bad) (fun _ _ _ _ _ _ _ _ _ => .bad) (fun _ _ _ _ _ _ _ _ _ _ => .bad) (fun _ _ _ _ _ => .bad) (fun _ _ _ _ _ => .bad) (fun _ _ _ _ _ => .bad) (fun _ _ off _ _ n κ => κ (.lp n (Nat.add 0 off))) (fun s o off _ _ _ κ => κ (.lp s (Nat.add o off)))
noncomputable def adZ (off sz : Nat) (ag : Bool) (n : Nat) (v : V) (κ : V → FR) : FR := adZc v off sz ag n κ
theorem adZ_eq (off sz : Nat) (ag : Bool) (n : Nat) (v : V) (κ : V → FR) : adZ off sz ag n v κ = adK n v .bad (fun s o => κ (.lp s (Nat.add o off))) (fun y => peK sz ag y off .bad fun w => κ (.im w))
  (fun i o => κ (.pt i (Nat.add o off))) (fun i ver j o => κ (.ap i ver j (Nat.add o off))) := by cases v <;> rfl
theorem adZ_ok {q : Pr} {off sz : Nat} {ag : Bool} {n : Nat} {v : V} {s : Sl} (hv : v.dle n s) {κ : V → FR} (hk : ∀ w t, addrS off sz ag s = some t → w.den t → Agr (κ w) q) : Agr (adZ off sz ag n v κ) q := by
  rw [adZ_eq]
  refine adK_ok (P := fun r => Agr r q) hv q.bad (fun t o hs => hk _ _ (by rw [hs]; rfl) rfl) (fun y hs => peK_ok (P := fun r => Agr r q) q.bad fun w hy hw => hk (.im w) (.v (.imm w.av)) ?_ rfl) (fun i o hs => hk _ _ (by rw [hs]; rfl) rfl) (fun i w j o hs => hk _ _ (by rw [hs]; rfl) rfl)
  rw [hs]; simp only [addrS, hw, Option.map_some]
noncomputable def pFa (off sz : Nat) (ag : Bool) (a : Opd) : Pv S := (fun e _ κ => adZ off sz ag (opn a) ((opd S a).run e) κ)
theorem pFa_ok (off sz : Nat) (ag : Bool) (a : Opd) : PvOK (S := S) (.fa off sz ag a) (pFa off sz ag a) := fun e xe H κ q hH h hk =>
  adZ_ok (opd_dle h a) fun w t ht hw => hk w t (by simp only [opv, ht]) hw
noncomputable def pIa (n sz : Nat) (ag : Bool) (a i : Opd) : Pv S := (fun e _ κ => idZ ((opd S i).run e) n .bad fun j => adZ (Nat.mul j sz) sz ag (opn a) ((opd S a).run e) κ)
theorem pIa_ok (n sz : Nat) (ag : Bool) (a i : Opd) : PvOK (S := S) (.ia n sz ag a i) (pIa n sz ag a i) := fun e xe H κ q hH h hk => by
  show Agr (idZ ((opd S i).run e) n .bad fun j => adZ (Nat.mul j sz) sz ag (opn a) ((opd S a).run e) κ) q
  refine idZ_ok (opd_val h i) q.bad fun k j hj hl => adZ_ok (opd_dle h a) fun w t ht hw => hk w t ?_ hw
  simp only [opv, hj]
  rw [if_pos ⟨by omega, by omega⟩]
  exact ht
noncomputable def ixF (sz : Nat) (c : V) (j : Nat) (κ : V → FR) : FR := nthZ .bad (fun y => ncK y .bad fun m => ifB (Nat.beq m sz) .bad (κ (.im y))) c j
theorem ixF_ok {q : Pr} {sz : Nat} {c : V} {j : Nat} {κ : V → FR} (h : ∀ y : V, c.cl[j]? = some y.av → y.av.cells.length = sz → Agr (κ (.im y)) q) : Agr (ixF sz c j κ) q := by
  refine nthZ_ok (P := fun r => Agr r q) q.bad c j fun y hy => ncK_ok (P := fun r => Agr r q) q.bad fun _ => ?_
  rw [ifB_beq]
  split
  · rename_i hl; exact h y hy hl
  · exact q.bad
noncomputable def qIxc : V → V → Nat → ZH → (V → FR) → FR := @V.rec (fun _ => V → Nat → ZH → (V → FR) → FR) (fun _ _ _ _ _ => .bad) (fun _ _ _ _ _ => .bad) (fun _ _ _ _ _ _ => .bad) (fun _ _ _ _ _ _ => .bad) (fun _ _ _ _ _ => .bad) (fun _ c _ i sz _ κ => nnZ i .bad fun j => ixF sz c j κ) (fun _ _ _ _ => .bad) (fun id ver lo len i sz H κ => idZ i len .bad fun j => arK id .bad (fun _ z _ _ => ifB (Nat.beq z sz) .bad (κ (.ap id ver (Nat.add lo j) 0))) H.bl) (fun _ _ _ _ _ _ => .bad) (fun _ _ _ _ => .bad) (fun _ _ _ _ _ _ => .bad) (fun _ _ _ _ _ _ _ _ => .bad) (fun _ _ _ _ _ _ _ => .bad) (fun _ _ _ _ => .bad) (fun _ _ _ _ _ _ _ => .bad) (fun _ _ _ _ => .bad) (fun _ _ _ _ _ _ => .bad) (fun _ _ _ _ _ _ => .bad) (fun _ _ _ _ => .bad) (fun _ _ _ _ _ _ _ _ => .bad) (fun _ _ _ _ _ _ _ _ _ => .bad) (fun _ _ _ _ => .bad) (fun _ _ _ _ => .bad) (fun _ _ _ _ => .bad) (fun _ _ _ _ _ _ => .bad) (fun _ _ _ _ _ _ => .bad)
noncomputable def qIx (sz : Nat) (x i : V) (H : ZH) (κ : V → FR) : FR := qIxc x i sz H κ
theorem qIx_eq (sz : Nat) (x i : V) (H : ZH) (κ : V → FR) : qIx sz x i H κ = (slcK' x .bad (fun _ c => nnZ i .bad fun j => ixF sz c j κ) .bad
  fun id ver lo len => idZ i len .bad fun j => arK id .bad (fun _ z _ _ => ifB (Nat.beq z sz) .bad (κ (.ap id ver (Nat.add lo j) 0))) H.bl) := by cases x <;> rfl
noncomputable def pIx (sz : Nat) (x i : Opd) : Pv S := (fun e H κ => qIx sz ((opd S x).run e) ((opd S i).run e) H κ)
theorem pIx_ok (sz : Nat) (x i : Opd) : PvOK (S := S) (.ix sz x i) (pIx sz x i) := fun e xe H κ q hH h hk => by
  show Agr (qIx sz ((opd S x).run e) ((opd S i).run e) H κ) q
  rw [qIx_eq]
  refine slcK'_ok (P := fun r => Agr r q) (opd_val h x) q.bad (fun nl c hc => nnZ_ok (opd_val h i) q.bad fun k j hj => ixF_ok fun y hy hl => hk (.im y) (.v (.imm y.av)) ?_ rfl) (fun _ => q.bad)
    (fun id ver lo len hm => idZ_ok (opd_val h i) q.bad fun k j hj hl => arK_ok (P := fun r => Agr r q) q.bad _ hH fun nl z c hc => ?_)
  · simp only [opv, hc, hj]
    rw [if_pos (by omega)]
    simp only [Int.toNat_natCast, hy, hl, if_true]
  · rw [ifB_beq]
    split
    · rename_i hz
      refine hk (.ap id ver (lo + j) 0) _ ?_ rfl
      have h1 : H.heap.get id = some (.arr nl z c.cl) := hc
      simp only [opv, hm, hj]
      rw [if_pos ⟨by omega, by omega⟩]
      simp only [h1, hz, if_true, Int.toNat_natCast]; rfl
    · exact q.bad
noncomputable def qIxlc : V → V → Nat → (V → FR) → FR := @V.rec (fun _ => V → Nat → (V → FR) → FR) (fun _ _ _ _ => .bad) (fun _ _ _ _ => .bad) (fun _ _ _ _ _ => .bad) (fun _ _ _ _ _ => .bad) (fun _ _ _ _ => .bad) (fun _ c _ i sz κ => nnZ i .bad fun j => ixF sz c j κ) (fun _ _ _ => .bad) (fun _ _ _ _ _ _ _ => .bad) (fun _ _ _ _ _ => .bad) (fun _ _ _ => .bad) (fun _ _ _ _ _ => .bad) (fun _ _ _ _ _ _ _ => .bad) (fun _ _ _ _ _ _ => .bad) (fun _ _ _ => .bad) (fun _ _ _ _ _ _ => .bad) (fun _ _ _ => .bad) (fun _ _ _ _ _ => .bad) (fun _ _ _ _ _ => .bad) (fun _ _ _ => .bad) (fun _ _ _ _ _ _ _ => .bad) (fun _ _ _ _ _ _ _ _ => .bad) (fun _ _ _ => .bad) (fun _ _ _ => .bad) (fun _ _ _ => .bad) (fun _ _ _ _ _ => .bad) (fun _ _ _ _ _ => .bad)
noncomputable def qIxl (sz : Nat) (x i : V) (κ : V → FR) : FR := qIxlc x i sz κ
theorem qIxl_eq (sz : Nat) (x i : V) (κ : V → FR) : qIxl sz x i κ = (slcK' x .bad (fun _ c => nnZ i .bad fun j => ixF sz c j κ) .bad fun _ _ _ _ => .bad) := by cases x <;> rfl
noncomputable def pIxl (sz : Nat) (x i : Opd) : Pv S := (fun e _ κ => qIxl sz ((opd S x).run e) ((opd S i).run e) κ)
theorem pIxl_ok (sz : Nat) (x i : Opd) : PvOK (S := S) (.ixl sz x i) (pIxl sz x i) := fun e xe H κ q hH h hk => by
  show Agr (qIxl sz ((opd S x).run e) ((opd S i).run e) κ) q
  rw [qIxl_eq]
  refine slcK'_ok (P := fun r => Agr r q) (opd_val h x) q.bad (fun nl c hc => nnZ_ok (opd_val h i) q.bad fun k j hj => ixF_ok fun y hy hl => hk (.im y) (.v (.imm y.av)) ?_ rfl) (fun _ => q.bad) (fun _ _ _ _ _ => q.bad)
  simp only [opv, hc, hj]
  rw [if_pos (by omega)]
  simp only [Int.toNat_natCast, hy, hl, if_true]
noncomputable def qFldc : V → Nat → Nat → Bool → (V → FR) → FR := @V.rec (fun _ => Nat → Nat → Bool → (V → FR) → FR) (fun _ _ _ _ _ => .bad) (fun _ _ _ _ _ => .bad) (fun _ _ _ _ _ _ => .bad) (fun _ _ _ _ _ _ => .bad) (fun _ _ _ _ _ => .bad) (fun _ _ _ _ _ _ _ => .bad) (fun _ _ _ _ => .bad) (fun _ _ _ _ _ _ _ _ => .bad) (fun _ _ _ _ _ _ => .bad) (fun _ _ _ _ => .bad) (fun _ _ _ _ _ _ => .bad) (fun _ _ _ _ _ _ _ _ => .bad) (fun _ _ _ _ _ _ _ => .bad) (fun _ _ _ _ => .bad) (fun _ _ _ _ _ _ _ => .bad) (fun _ _ _ _ => .bad) (fun c _ off sz ag κ => paK sz ag c off .bad fun w => haK w κ) (fun _ _ _ _ _ _ => .bad) (fun _ _ _ _ => .bad) (fun _ _ _ _ _ _ _ _ => .bad) (fun _ _ _ _ _ _ _ _ _ => .bad) (fun _ _ _ _ => .bad) (fun _ _ _ _ => .bad) (fun _ _ _ _ => .bad) (fun _ _ _ _ _ _ => .bad) (fun _ _ _ _ _ _ => .bad)
noncomputable def qFld (off sz : Nat) (ag : Bool) (x : V) (κ : V → FR) : FR := qFldc x off sz ag κ
theorem qFld_eq (off sz : Nat) (ag : Bool) (x : V) (κ : V → FR) : qFld off sz ag x κ = (agK x .bad fun c => paK sz ag c off .bad fun w => haK w κ) := by cases x <;> rfl
noncomputable def pFld (off sz : Nat) (ag : Bool) (x : Opd) : Pv S := (fun e _ κ => qFld off sz ag ((opd S x).run e) κ)
theorem pFld_ok (off sz : Nat) (ag : Bool) (x : Opd) : PvOK (S := S) (.fld off sz ag x) (pFld off sz ag x) := fun e xe H κ q hH h hk => by
  show Agr (qFld off sz ag ((opd S x).run e) κ) q
  rw [qFld_eq]
  refine agK_ok (P := fun r => Agr r q) (opd_val h x) q.bad fun c hc => paK_ok (P := fun r => Agr r q) q.bad fun w hw => haK_ok fun hp => hk w (.v w.av) ?_ (pv_den hp)
  simp only [opv, hc, hw, Option.map_some]
noncomputable def pIxa (n sz : Nat) (ag : Bool) (x i : Opd) : Pv S := (fun e _ κ => agK ((opd S x).run e) .bad fun c => idZ ((opd S i).run e) n .bad fun j => paK sz ag c (Nat.mul j sz) .bad fun w => haK w κ)
theorem pIxa_ok (n sz : Nat) (ag : Bool) (x i : Opd) : PvOK (S := S) (.ixa n sz ag x i) (pIxa n sz ag x i) := fun e xe H κ q hH h hk => by
  refine agK_ok (P := fun r => Agr r q) (opd_val h x) q.bad fun c hc => idZ_ok (opd_val h i) q.bad fun k j hj hl => paK_ok (P := fun r => Agr r q) q.bad fun w hw => haK_ok fun hp => hk w (.v w.av) ?_ (pv_den hp)
  simp only [opv, hc, hj]
  rw [if_pos ⟨by omega, by omega⟩]
  show (part sz ag c.cl ((j : Int).toNat * sz)).map Sl.v = _
  rw [Int.toNat_natCast, show j * sz = Nat.mul j sz from rfl, hw]; rfl
theorem byts_get : ∀ l n j, (byts l n)[j]? = if j < l then some (UInt8.ofNat (Nat.shiftRight n (Nat.mul 8 j) % 256)) else none
  | 0, n, j => by simp [byts]
  | l + 1, n, 0 => by
    rw [shr8]; simp [byts]
  | l + 1, n, j + 1 => by
    simp only [byts, List.getElem?_cons_succ, byts_get l, shr8, Nat.pow_succ]
    rw [Nat.mul_comm (256 ^ j), ← Nat.div_div_eq_div_mul]
    by_cases h : j < l
    · rw [if_pos h, if_pos (by omega)]
    · rw [if_neg h, if_neg (by omega)]
noncomputable def qIxsc : V → V → (V → FR) → FR := @V.rec (fun _ => V → (V → FR) → FR) (fun _ _ _ => .bad) (fun _ _ _ => .bad) (fun _ _ _ _ => .bad) (fun l n i κ => idZ i l .bad fun j => κ (.u 0 (Nat.mod (Nat.shiftRight n (Nat.mul 8 j)) 256))) (fun _ _ _ => .bad) (fun _ _ _ _ _ => .bad) (fun _ _ => .bad) (fun _ _ _ _ _ _ => .bad) (fun _ _ _ _ => .bad) (fun _ _ => .bad) (fun _ _ _ _ => .bad) (fun _ _ _ _ _ _ => .bad) (fun _ _ _ _ _ => .bad) (fun _ _ => .bad) (fun _ _ _ _ _ => .bad) (fun _ _ => .bad) (fun _ _ _ _ => .bad) (fun _ _ _ _ => .bad) (fun _ _ => .bad) (fun _ _ _ _ _ _ => .bad) (fun _ _ _ _ _ _ _ => .bad) (fun _ _ => .bad) (fun _ _ => .bad) (fun _ _ => .bad) (fun _ _ _ _ => .bad) (fun _ _ _ _ => .bad)
noncomputable def qIxs (x i : V) (κ : V → FR) : FR := qIxsc x i κ
theorem qIxs_eq (x i : V) (κ : V → FR) : qIxs x i κ = (sK x .bad fun l n => idZ i l .bad fun j => κ (.u 0 (Nat.mod (Nat.shiftRight n (Nat.mul 8 j)) 256))) := by cases x <;> rfl
noncomputable def pIxs (x i : Opd) : Pv S := (fun e _ κ => qIxs ((opd S x).run e) ((opd S i).run e) κ)
theorem pIxs_ok (x i : Opd) : PvOK (S := S) (.ixs x i) (pIxs x i) := fun e xe H κ q hH h hk => by
  show Agr (qIxs ((opd S x).run e) ((opd S i).run e) κ) q
  rw [qIxs_eq]
  refine sK_ok (P := fun r => Agr r q) (opd_val h x) q.bad fun l n hs => idZ_ok (opd_val h i) q.bad fun k j hj hl => hk (.u 0 _) (.v _) ?_ rfl
  simp only [opv, hs, hj]
  rw [if_pos (by omega)]
  have e1 : (UInt8.ofNat (Nat.shiftRight n (Nat.mul 8 j) % 256)).toNat = Nat.mod (Nat.shiftRight n (Nat.mul 8 j)) 256 := by
    show _ = Nat.shiftRight n (Nat.mul 8 j) % 256
    simp
  simp only [Int.toNat_natCast, byts_get, hl, if_true, e1]; rfl
theorem toIB (n B : Nat) : AV.int .i64 (((Nat.add n B : Nat) : Int) - (B : Int)) = i64 n := by
  have : ((Nat.add n B : Nat) : Int) - (B : Int) = n := by
    show ((n + B : Nat) : Int) - (B : Int) = n
    omega
  rw [this]; rfl
theorem toI (n : Nat) : V.av (.i (Nat.add n 9223372036854775808)) = i64 n := toIB n 9223372036854775808
noncomputable def qLenc : V → (V → FR) → FR := @V.rec (fun _ => (V → FR) → FR) (fun _ _ => .bad) (fun _ _ => .bad) (fun _ _ _ => .bad) (fun _ _ _ => .bad) (fun _ _ => .bad) (fun _ c _ κ => κ (.i (Nat.add (lenC c) 9223372036854775808))) (fun κ => κ (.i 9223372036854775808)) (fun _ _ _ len κ => κ (.i (Nat.add len 9223372036854775808))) (fun _ _ _ => .bad) (fun _ => .bad) (fun _ _ _ => .bad) (fun _ _ _ _ _ => .bad) (fun _ _ _ _ => .bad) (fun _ => .bad) (fun _ _ _ _ => .bad) (fun _ => .bad) (fun _ _ _ => .bad) (fun _ _ _ => .bad) (fun _ => .bad) (fun _ _ _ _ _ => .bad) (fun _ _ _ _ _ _ => .bad) (fun _ => .bad) (fun _ => .bad) (fun _ => .bad) (fun _ _ _ => .bad) (fun _ _ _ => .bad)
noncomputable def qLen (x : V) (κ : V → FR) : FR := qLenc x κ
theorem qLen_eq (x : V) (κ : V → FR) : qLen x κ = (slcK' x .bad (fun _ c => κ (.i (Nat.add (lenC c) 9223372036854775808))) (κ (.i 9223372036854775808)) fun _ _ _ len => κ (.i (Nat.add len 9223372036854775808))) := by cases x <;> rfl
noncomputable def pLen (x : Opd) : Pv S := (fun e _ κ => qLen ((opd S x).run e) κ)
theorem pLen_ok (x : Opd) : PvOK (S := S) (.len x) (pLen x) := fun e xe H κ q hH h hk => by
  show Agr (qLen ((opd S x).run e) κ) q
  rw [qLen_eq]
  refine slcK'_ok (P := fun r => Agr r q) (opd_val h x) q.bad (fun nl c hc => hk (.i _) (.v (i64 c.cl.length)) ?_ ?_) (fun hc => hk (.i _) (.v (i64 0)) ?_ rfl) (fun id ver lo len hc => hk (.i _) (.v (i64 len)) ?_ ?_)
  · simp only [opv, hc, lenAV, Option.map_some]
  · show Sl.v (i64 _) = Sl.v (V.av _); rw [lenC_eq, toI]
  · simp only [opv, hc, lenAV, Option.map_some]; rfl
  · simp only [opv, hc, lenAV, Option.map_some]
  · show Sl.v (i64 _) = Sl.v (V.av _); rw [toI]
noncomputable def qLnsc : V → (V → FR) → FR := @V.rec (fun _ => (V → FR) → FR) (fun _ _ => .bad) (fun _ _ => .bad) (fun _ _ _ => .bad) (fun l _ κ => κ (.i (Nat.add l 9223372036854775808))) (fun _ _ => .bad) (fun _ _ _ _ => .bad) (fun _ => .bad) (fun _ _ _ _ _ => .bad) (fun _ _ _ => .bad) (fun _ => .bad) (fun _ _ _ => .bad) (fun _ _ _ _ _ => .bad) (fun _ _ _ _ => .bad) (fun _ => .bad) (fun _ _ _ _ => .bad) (fun _ => .bad) (fun _ _ _ => .bad) (fun _ _ _ => .bad) (fun _ => .bad) (fun _ _ _ _ _ => .bad) (fun _ _ _ _ _ _ => .bad) (fun _ => .bad) (fun _ => .bad) (fun _ => .bad) (fun _ _ _ => .bad) (fun _ _ _ => .bad)
noncomputable def qLns (x : V) (κ : V → FR) : FR := qLnsc x κ
theorem qLns_eq (x : V) (κ : V → FR) : qLns x κ = (sK x .bad fun l _ => κ (.i (Nat.add l 9223372036854775808))) := by cases x <;> rfl
noncomputable def pLns (x : Opd) : Pv S := (fun e _ κ => qLns ((opd S x).run e) κ)
theorem pLns_ok (x : Opd) : PvOK (S := S) (.lns x) (pLns x) := fun e xe H κ q hH h hk => by
  show Agr (qLns ((opd S x).run e) κ) q
  rw [qLns_eq]
  refine sK_ok (P := fun r => Agr r q) (opd_val h x) q.bad fun l n hs => hk (.i _) (.v (i64 l)) ?_ ?_
  · simp only [opv, hs, byts_length]
  · show Sl.v (i64 _) = Sl.v (V.av _); rw [toI]
noncomputable def pCap (x : Opd) : Pv S := (fun e _ κ => slcK' ((opd S x).run e) .bad (fun nl c => @Bool.rec (fun _ => FR) .bad (nilF (κ (.i 9223372036854775808)) c) nl) (κ (.i 9223372036854775808)) fun _ _ _ _ => .bad)
theorem pCap_ok (x : Opd) : PvOK (S := S) (.cap x) (pCap x) := fun e xe H κ q hH h hk => by
  refine slcK'_ok (P := fun r => Agr r q) (opd_val h x) q.bad (fun nl c hc => ?_) (fun hc => hk (.i _) (.v (i64 0)) (by simp only [opv, hc]) rfl) (fun _ _ _ _ _ => q.bad)
  cases nl with
  | false => exact q.bad
  | true =>
    refine nilF_ok fun he => ?_
    rw [he] at hc
    exact hk (.i _) (.v (i64 0)) (by simp only [opv, hc]) rfl

/-! ### slices -/
noncomputable def boZ (S : List Nat) (b : Option Opd) (z : Nat) (e : E S) (f : Nat → FR) : FR := @Option.rec Opd (fun _ => FR) (f z) (fun o => nnZ ((opd S o).run e) .bad f) b
noncomputable def bnZ (S : List Nat) (lo hi : Option Opd) (len : Nat) (e : E S) (f : Nat → Nat → FR) : FR := boZ S hi len e fun h => boZ S lo 0 e fun l => ifB (Nat.ble l h) .bad (ifB (Nat.ble h len) .bad (f l h))
def bndV (z : Int) (v : Option AV) : Option Int := match v with
  | none => some z
  | some v => getI v
theorem boZ_ok {q : Pr} {e : E S} {x : Env} (h : Rel S e x) {b : Option Opd} {z : Nat} {f : Nat → FR} (hf : ∀ (n : Nat) v, optAV x b = some v → bndV z v = some (n : Int) → Agr (f n) q) : Agr (boZ S b z e f) q := by
  cases b with
  | none => exact hf z none rfl rfl
  | some o =>
    refine nnZ_ok (opd_val h o) q.bad fun k n hn => hf n (some (.int k n)) ?_ rfl
    simp only [optAV, hn, Option.map_some]
theorem slB {len l u : Nat} {vl vh : Option AV} (hu : bndV len vh = some (u : Int)) (hl : bndV (0 : Nat) vl = some (l : Int)) (h1 : l ≤ u) (h2 : u ≤ len) : slBounds len vl vh = some (l, u) := by
  have e : slBounds len vl vh = match bndV len vh with
    | none => none
    | some h => match bndV (0 : Nat) vl with
      | none => none
      | some l => if 0 ≤ l ∧ l ≤ h ∧ h ≤ len then some (l.toNat, h.toNat) else none := by
    cases vl <;> cases vh <;> rfl
  rw [e, hu, hl]
  simp only
  rw [if_pos ⟨by omega, by omega, by omega⟩]
  simp
theorem bnZ_ok {q : Pr} {e : E S} {x : Env} (h : Rel S e x) {lo hi : Option Opd} {len : Nat} {f : Nat → Nat → FR}
    (hf : ∀ (l u : Nat) vl vh, optAV x lo = some vl → optAV x hi = some vh → slBounds len vl vh = some (l, u) → l ≤ u → u ≤ len → Agr (f l u) q) : Agr (bnZ S lo hi len e f) q := by
  refine boZ_ok h fun u vh hvh hu => boZ_ok h fun l vl hvl hl => ?_
  rw [ifB_ble, ifB_ble]
  split
  · rename_i h1
    split
    · rename_i h2
      exact hf l u vl vh hvl hvh (slB hu hl h1 h2) h1 h2
    · exact q.bad
  · exact q.bad
noncomputable def pSl (sz : Nat) (x : Opd) (lo hi mx : Option Opd) : Pv S := (fun e H κ => @Option.rec Opd (fun _ => FR)
  (slcK' ((opd S x).run e) .bad (fun n c => ifB (allC sz c) .bad (bnZ S lo hi (lenC c) e fun l h => κ (.li n (takeC (dropC c l) (Nat.sub h l))))) (bnZ S lo hi 0 e fun _ _ => κ .c0)
    fun id ver a len => arK id .bad (fun _ z _ _ => ifB (Nat.beq z sz) .bad (bnZ S lo hi len e fun l h => κ (.ms id ver (Nat.add a l) (Nat.sub h l)))) H.bl)
  (fun m => @Option.rec Opd (fun _ => FR) (iK ((opd S m).run e) .bad fun mn => ifB (Nat.beq mn 9223372036854775808) .bad (@Option.rec Opd (fun _ => FR) .bad (fun h => iK ((opd S h).run e) .bad fun hn => ifB (Nat.beq hn 9223372036854775808) .bad
    (slcK' ((opd S x).run e) .bad (fun n _ => @Bool.rec (fun _ => FR) (κ .c0) (κ (.li true .nil)) n) (κ .c0) fun _ _ _ _ => .bad)) hi)) (fun _ => .bad) lo) mx)
theorem pSl_ok (sz : Nat) (x : Opd) (lo hi mx : Option Opd) : PvOK (S := S) (.sl sz x lo hi mx) (pSl sz x lo hi mx) := fun e xe H κ q hH h hk => by
  cases mx with
  | none =>
    refine slcK'_ok (P := fun r => Agr r q) (opd_val h x) q.bad (fun n c hc => ifB_ok (P := fun r => Agr r q) q.bad fun ha => bnZ_ok h fun l u vl vh hl hu hb _ _ => hk (.li n _) (.v _) ?_ rfl)
      (fun hc => bnZ_ok h fun l u vl vh hl hu hb _ _ => hk .c0 (.v .cap0) ?_ rfl) (fun id ver a len hc => arK_ok (P := fun r => Agr r q) q.bad _ hH fun nl z c hz => ?_)
    · rw [lenC_eq] at hb
      simp only [opv, hc, hl, hu, show optAV xe none = some none from rfl, slAV, allC_ok sz c ha, if_true, hb, Option.map_some]
      simp only [V.av, takeC_eq, dropC_eq]; rfl
    · simp only [opv, hc, hl, hu, show optAV xe none = some none from rfl, slAV, hb, Option.map_some]
    · rw [ifB_beq]
      split
      · rename_i h1
        refine bnZ_ok h fun l u vl vh hl hu hb _ _ => hk (.ms id ver _ _) (.v _) ?_ rfl
        have h2 : H.heap.get id = some (.arr nl z c.cl) := hz
        simp only [opv, hc, hl, hu, show optAV xe none = some none from rfl, slAV, h2, h1, if_true, hb, Option.map_some]; rfl
      · exact q.bad
  | some m =>
    cases lo with
    | some _ => exact q.bad
    | none =>
      refine iK_ok (P := fun r => Agr r q) (opd_val h m) q.bad fun mn hm => ?_
      rw [ifB_beq]
      split
      · rename_i h1
        subst h1
        cases hi with
        | none => exact q.bad
        | some hi =>
          refine iK_ok (P := fun r => Agr r q) (opd_val h hi) q.bad fun hn hh => ?_
          rw [ifB_beq]
          split
          · rename_i h1
            subst h1
            have z : (((9223372036854775808 : Nat) : Int) - 9223372036854775808) = 0 := by decide
            rw [z] at hm hh
            refine slcK'_ok (P := fun r => Agr r q) (opd_val h x) q.bad (fun n c hc => ?_) (fun hc => hk .c0 (.v .cap0) ?_ rfl) (fun _ _ _ _ _ => q.bad)
            · cases n with
              | false => exact hk .c0 (.v .cap0) (by simp only [opv, hc, hm, hh, optAV, slAV, Option.map_some]; rfl) rfl
              | true => exact hk (.li true .nil) (.v (.list true [])) (by simp only [opv, hc, hm, hh, optAV, slAV, Option.map_some]; rfl) rfl
            · simp only [opv, hc, hm, hh, optAV, slAV, Option.map_some]
          · exact q.bad
      · exact q.bad
theorem byts_drop : ∀ m l n, (byts l n).drop m = byts (l - m) (Nat.shiftRight n (Nat.mul 8 m))
  | 0, l, n => by rw [shr8]; simp
  | m + 1, 0, n => by simp [byts]
  | m + 1, l + 1, n => by
    simp only [byts, List.drop_succ_cons]
    rw [byts_drop m l, shr8, shr8, Nat.pow_succ, Nat.mul_comm (256 ^ m), Nat.div_div_eq_div_mul]
    congr 1
    omega
theorem byts_take : ∀ m l n, (byts l n).take m = byts (min m l) n
  | 0, l, n => by simp [byts]
  | m + 1, 0, n => by simp [byts]
  | m + 1, l + 1, n => by
    simp only [byts, List.take_succ_cons, byts_take m l]
    rw [show min (m + 1) (l + 1) = min m l + 1 from by omega]
    rfl
noncomputable def pSs (x : Opd) (lo hi : Option Opd) : Pv S := (fun e _ κ => sK ((opd S x).run e) .bad fun len n => bnZ S lo hi len e fun l h => κ (.s (Nat.sub h l) (Nat.shiftRight n (Nat.mul 8 l))))
theorem pSs_ok (x : Opd) (lo hi : Option Opd) : PvOK (S := S) (.ss x lo hi) (pSs x lo hi) := fun e xe H κ q hH h hk => by
  refine sK_ok (P := fun r => Agr r q) (opd_val h x) q.bad fun len n hs => bnZ_ok h fun l u vl vh hl hu hb h1 h2 => hk (.s _ _) (.v _) ?_ rfl
  simp only [opv, hs, hl, hu, byts_length, hb, Option.map_some]
  rw [byts_drop, byts_take, Nat.min_eq_left (by omega)]; rfl

/-! ### tuples, interfaces, function values, minimum and maximum -/
noncomputable def qExtc : V → Nat → (V → FR) → FR := @V.rec (fun _ => Nat → (V → FR) → FR) (fun _ _ _ => .bad) (fun _ _ _ => .bad) (fun _ _ _ _ => .bad) (fun _ _ _ _ => .bad) (fun _ _ _ => .bad) (fun _ _ _ _ _ => .bad) (fun _ _ => .bad) (fun _ _ _ _ _ _ => .bad) (fun _ _ _ _ => .bad) (fun _ _ => .bad) (fun _ _ _ _ => .bad) (fun _ _ _ _ _ _ => .bad) (fun _ _ _ _ _ => .bad) (fun _ _ => .bad) (fun _ _ _ _ _ => .bad) (fun _ _ => .bad) (fun _ _ _ _ => .bad) (fun c _ i κ => nthZ .bad (fun w => haK w κ) c i) (fun _ _ => .bad) (fun _ _ _ _ _ _ => .bad) (fun _ _ _ _ _ _ _ => .bad) (fun _ _ => .bad) (fun _ _ => .bad) (fun _ _ => .bad) (fun _ _ _ _ => .bad) (fun _ _ _ _ => .bad)
noncomputable def qExt (i : Nat) (x : V) (κ : V → FR) : FR := qExtc x i κ
theorem qExt_eq (i : Nat) (x : V) (κ : V → FR) : qExt i x κ = (tuK x .bad fun c => nthZ .bad (fun w => haK w κ) c i) := by cases x <;> rfl
noncomputable def pExt (i : Nat) (x : Opd) : Pv S := (fun e _ κ => qExt i ((opd S x).run e) κ)
theorem pExt_ok (i : Nat) (x : Opd) : PvOK (S := S) (.ext i x) (pExt i x) := fun e xe H κ q hH h hk => by
  show Agr (qExt i ((opd S x).run e) κ) q
  rw [qExt_eq]
  refine tuK_ok (P := fun r => Agr r q) (opd_val h x) q.bad fun c hc => nthZ_ok (P := fun r => Agr r q) q.bad c i fun w hw => haK_ok fun hp => hk w (.v w.av) ?_ (pv_den hp)
  simp only [opv, hc, hw, Option.map_some]
noncomputable def pMkif (t : Nat) (x : Opd) : Pv S := (fun e _ κ => haK ((opd S x).run e) fun v => κ (.fc t v))
theorem pMkif_ok (t : Nat) (x : Opd) : PvOK (S := S) (.mkif t x) (pMkif t x) := fun e xe H κ q hH h hk => by
  refine haK_ok (v := (opd S x).run e) (κ := fun v => κ (.fc t v)) fun hp => hk (.fc t ((opd S x).run e)) (.v _) ?_ rfl
  simp only [opv, opd_val h x _ hp]; rfl
noncomputable def pTas (t : Nat) (z : AV) (ok : Bool) (x : Opd) : Pv S := (fun e _ κ => fcK ((opd S x).run e) .bad
  (fun t' v => ifB (Nat.beq t' t) (@Bool.rec (fun _ => FR) .bad (κ (.tu (.one (ofAV z) (.one (.b false) .nil)))) ok) (haK v fun v => @Bool.rec (fun _ => FR) (κ v) (κ (.tu (.one v (.one (.b true) .nil)))) ok))
  (@Bool.rec (fun _ => FR) .bad (κ (.tu (.one (ofAV z) (.one (.b false) .nil)))) ok))
theorem pTas_ok (t : Nat) (z : AV) (ok : Bool) (x : Opd) : PvOK (S := S) (.tas t z ok x) (pTas t z ok x) := fun e xe H κ q hH h hk => by
  have hzav := (ofAV_pv z).2
  refine fcK_ok (P := fun r => Agr r q) (opd_val h x) q.bad (fun t' v hv => ?_) (fun hz => ?_)
  · rw [ifB_beq]
    split
    · rename_i ht
      refine haK_ok fun hp => ?_
      cases ok with
      | false => exact hk v (.v v.av) (by simp only [opv, hv, ht, if_true]; rfl) (pv_den hp)
      | true => exact hk (.tu _) (.v (.tup [v.av, .bool true])) (by simp only [opv, hv, ht, if_true]) rfl
    · rename_i ht
      cases ok with
      | false => exact q.bad
      | true => exact hk (.tu _) (.v (.tup [z, .bool false])) (by simp only [opv, hv, ht, if_false, if_true]) (by show Sl.v _ = Sl.v (.tup [(ofAV z).av, .bool false]); rw [hzav])
  · cases ok with
    | false => exact q.bad
    | true => exact hk (.tu _) (.v (.tup [z, .bool false])) (by simp only [opv, hz, if_true]) (by show Sl.v _ = Sl.v (.tup [(ofAV z).av, .bool false]); rw [hzav])
noncomputable def pMkfn (f : Nat) (cap : List Opd) : Pv S := (fun e _ κ => (argC S cap).run e fun c => κ (.fn f c))
theorem pMkfn_ok (f : Nat) (cap : List Opd) : PvOK (S := S) (.mkfn f cap) (pMkfn f cap) := fun e xe H κ q hH h hk =>
  argC_ok h cap fun w vs hvs hc => hk (.fn f w) (.v (.fn f vs)) (by simp only [opv, hvs]) (by show Sl.v _ = Sl.v (.fn f w.cl); rw [hc])
noncomputable def pNilc (x : Opd) : Pv S := (fun e _ κ => ncmK (opn x) ((opd S x).run e) .bad κ)
theorem pNilc_ok (x : Opd) : PvOK (S := S) (.nilc x) (pNilc x) := fun e xe H κ q hH h hk => by
  refine ncmK_ok (P := fun r => Agr r q) (opd_dle h x) q.bad fun w hw hs => hk w _ ?_ hw
  simp only [opv]; exact hs
noncomputable def mmN (mx : Bool) (a b : Nat) : Nat := ifB (Nat.ble a b) (@Bool.rec (fun _ => Nat) b a mx) (@Bool.rec (fun _ => Nat) a b mx)
theorem mmN_eq (mx : Bool) (a b : Nat) : mmN mx a b = if mx then max a b else min a b := by
  simp only [mmN, ifB_ble]
  cases mx <;> by_cases hab : a ≤ b
  · rw [if_pos hab]; simp; omega
  · rw [if_neg hab]; simp; omega
  · rw [if_pos hab]; simp; omega
  · rw [if_neg hab]; simp; omega
theorem mmI (mx : Bool) (a b : Nat) (B : Int) : ((mmN mx a b : Nat) : Int) - B = if mx then max ((a : Int) - B) ((b : Int) - B) else min ((a : Int) - B) ((b : Int) - B) := by
  rw [mmN_eq]; cases mx <;> simp <;> omega
noncomputable def pMnmx (mx : Bool) (x y : Opd) : Pv S := (fun e _ κ => numK ((opd S x).run e) .bad (fun a => iK ((opd S y).run e) .bad fun b => κ (.i (mmN mx a b)))
  (fun k a => uK ((opd S y).run e) .bad fun k' b => ifB (Nat.beq k k') .bad (κ (.u k (mmN mx a b)))) (fun _ _ => .bad))
theorem pMnmx_ok (mx : Bool) (x y : Opd) : PvOK (S := S) (.mnmx mx x y) (pMnmx mx x y) := fun e xe H κ q hH h hk => by
  refine numK_ok (P := fun r => Agr r q) (opd_val h x) q.bad (fun a ha => iK_ok (P := fun r => Agr r q) (opd_val h y) q.bad fun b hb => hk (.i _) (.v _) ?_ rfl)
    (fun k a ha => uK_ok (P := fun r => Agr r q) (opd_val h y) q.bad fun k' b hb => ?_) (fun _ _ _ => q.bad)
  · simp only [opv, ha, hb, if_true, V.av, mmI]
  · rw [ifB_beq]
    split
    · rename_i hk'
      subst hk'
      refine hk (.u k _) (.v _) ?_ rfl
      have := mmI mx a b 0
      simp only [Int.sub_zero] at this
      simp only [opv, ha, hb, if_true, V.av, this]
    · exact q.bad
noncomputable def pBim (sz : Nat) (x : Opd) : Pv S := (fun e _ κ => ncK ((opd S x).run e) .bad fun m => ifB (Nat.beq m sz) .bad (κ (.im ((opd S x).run e))))
theorem pBim_ok (sz : Nat) (x : Opd) : PvOK (S := S) (.bim sz x) (pBim sz x) := fun e xe H κ q hH h hk => by
  show Agr (ncK ((opd S x).run e) .bad fun m => ifB (Nat.beq m sz) .bad (κ (.im ((opd S x).run e)))) q
  refine ncK_ok (P := fun r => Agr r q) q.bad fun hp => ?_
  rw [ifB_beq]
  split
  · rename_i hl
    refine hk (.im _) (.v _) ?_ rfl
    simp only [opv, opd_val h x _ hp, hl, if_true]; rfl
  · exact q.bad
noncomputable def pSla (n : Nat) (a : Opd) (lo hi : Option Opd) : Pv S := (fun e _ κ => imK ((opd S a).run e) .bad fun y => ceK y .bad fun c => ifB (Nat.beq (lenC c) n) .bad (bnZ S lo hi n e fun l h => κ (.li false (takeC (dropC c l) (Nat.sub h l)))))
theorem pSla_ok (n : Nat) (a : Opd) (lo hi : Option Opd) : PvOK (S := S) (.sla n a lo hi) (pSla n a lo hi) := fun e xe H κ q hH h hk => by
  refine imK_ok (P := fun r => Agr r q) (opd_val h a) q.bad fun y hy => ceK_ok (P := fun r => Agr r q) q.bad fun c hp hc => ?_
  rw [ifB_beq, lenC_eq]
  split
  · rename_i hl
    rw [hc] at hl
    refine bnZ_ok h fun l u vl vh hl' hu hb _ _ => hk (.li false _) (.v _) ?_ rfl
    simp only [opv, hy, hl', hu, hl, if_true, hb, Option.map_some]
    simp only [V.av, takeC_eq, dropC_eq, hc]; rfl
  · exact q.bad
noncomputable def pSt0 (a v : Opd) : Pv S := (fun e _ κ => adK (opn a) ((opd S a).run e) .bad (fun _ _ => agK ((opd S v).run e) .bad fun c => nilF (κ .un) c) (fun _ => .bad) (fun _ _ => .bad) fun _ _ _ _ => .bad)
theorem pSt0_ok (a v : Opd) : PvOK (S := S) (.st0 a v) (pSt0 a v) := fun e xe H κ q hH h hk => by
  show Agr (adK (opn a) ((opd S a).run e) .bad (fun _ _ => agK ((opd S v).run e) .bad fun c => nilF (κ .un) c) (fun _ => .bad) (fun _ _ => .bad) fun _ _ _ _ => .bad) q
  refine adK_ok (P := fun r => Agr r q) (opd_dle h a) q.bad (fun t o hs => agK_ok (P := fun r => Agr r q) (opd_val h v) q.bad fun c hc => nilF_ok fun he => hk .un .un ?_ rfl) (fun _ _ => q.bad) (fun _ _ _ => q.bad) (fun _ _ _ _ _ => q.bad)
  rw [he] at hc
  simp only [opv, hs, hc]

/-! ### literals -/
structure Mk (S : List Nat) where
  run : E S → V → (V → FR) → FR
noncomputable def mkC (S : List Nat) (nz n : Nat) : List (Nat × Opd) → Mk S
  | [] => ⟨fun _ c κ => κ c⟩
  | (i, o) :: l => bif Nat.ble (Nat.succ i) n then ⟨fun e c κ => ncK ((opd S o).run e) .bad fun m => ifB (Nat.beq m nz) .bad (setK ((opd S o).run e) .bad c i fun c' => (mkC S nz n l).run e c' κ)⟩ else ⟨fun _ _ _ => .bad⟩
theorem mkC_ok {q : Pr} {nz n : Nat} {e : E S} {x : Env} (h : Rel S e x) : ∀ (l : List (Nat × Opd)) {c : V} {κ : V → FR}, (∀ y ∈ c.cl, y.cells.length = nz) → c.cl.length = n →
    (∀ w ps, allParts x l = some ps → mklAV c.cl ps = some w.cl → Agr (κ w) q) → Agr ((mkC S nz n l).run e c κ) q
  | [], c, κ, _, _, hk => hk c [] rfl rfl
  | (i, o) :: l, c, κ, hz, hn, hk => by
    simp only [mkC]
    cases hb : Nat.ble (Nat.succ i) n with
    | false => exact q.bad
    | true =>
      have h2 : i < n := Nat.le_of_ble_eq_true hb
      have h2' : i < c.cl.length := by rw [hn]; exact h2
      simp only [cond_true]
      refine ncK_ok (P := fun r => Agr r q) q.bad fun hp => ?_
      rw [ifB_beq]
      split
      · rename_i h1
        refine setK_ok _ q.bad c i _ fun c' _ hc' => mkC_ok h l (fun y hy => ?_) ?_ fun w ps hps hw => hk w ((i, ((opd S o).run e).av) :: ps) ?_ ?_
        · rw [hc'] at hy
          rcases List.mem_or_eq_of_mem_set hy with hy | hy
          · exact hz y hy
          · rw [hy]; exact h1
        · rw [hc', List.length_set]; exact hn
        · simp only [allParts, opd_val h o _ hp, hps, Option.map_some]
        · rw [hc'] at hw
          simp only [mklAV]
          rw [List.getElem?_eq_getElem h2']
          simp only
          rw [if_pos (by rw [hz _ (List.getElem_mem h2')]; exact h1)]
          exact hw
      · exact q.bad
noncomputable def pMkl (z : AV) (n : Nat) (ps : List (Nat × Opd)) : Pv S := (fun e _ κ => (mkC S z.cells.length n ps).run e (repC n (ofAV z)) fun c => κ (.li false c))
theorem pMkl_ok (z : AV) (n : Nat) (ps : List (Nat × Opd)) : PvOK (S := S) (.mkl z n ps) (pMkl z n ps) := fun e xe H κ q hH h hk => by
  have hc : (repC n (ofAV z)).cl = List.replicate n z := by rw [repC_eq, (ofAV_pv z).2]
  refine mkC_ok h ps (fun y hy => ?_) (by rw [hc, List.length_replicate]) fun w vs hvs hw => hk (.li false w) (.v _) ?_ rfl
  · rw [hc] at hy; rw [List.eq_of_mem_replicate hy]
  · rw [hc] at hw
    simp only [opv, hvs, hw, Option.map_some]; rfl
noncomputable def blC (S : List Nat) : List ((Nat × Nat) × Opd) → Mk S
  | [] => ⟨fun _ c κ => κ c⟩
  | ((off, sz), o) :: l => bif Nat.beq sz 1 then ⟨fun e c κ => onK ((opd S o).run e) .bad (setK ((opd S o).run e) .bad c off fun c' => (blC S l).run e c' κ)⟩
    else ⟨fun e c κ => wrK sz ((opd S o).run e) c off .bad fun c' => (blC S l).run e c' κ⟩
theorem blC_ok {q : Pr} {e : E S} {x : Env} (h : Rel S e x) : ∀ (l : List ((Nat × Nat) × Opd)) {c : V} {κ : V → FR},
    (∀ w ps, allParts x l = some ps → fillAV c.cl ps = some w.cl → Agr (κ w) q) → Agr ((blC S l).run e c κ) q
  | [], c, κ, hk => hk c [] rfl rfl
  | ((off, sz), o) :: l, c, κ, hk => by
    simp only [blC, beq_dec]
    by_cases h1 : sz = 1
    · subst h1
      simp only [decide_true, cond_true]
      refine onK_ok (P := fun r => Agr r q) q.bad fun hp h1 => setK_ok _ q.bad c off _ fun c' hl hc' => blC_ok h l fun u ps hps hu => hk u (((off, 1), ((opd S o).run e).av) :: ps) ?_ ?_
      · simp only [allParts, opd_val h o _ hp, hps, Option.map_some]
      · rw [hc', set_putAt hl] at hu
        simp only [fillAV, one_cells h1]
        rw [if_pos ⟨rfl, hl⟩]; exact hu
    · simp only [h1, decide_false, cond_false]
      refine wrK_ok q.bad fun w hp hs hl hw => blC_ok h l fun u ps hps hu => hk u (((off, sz), ((opd S o).run e).av) :: ps) ?_ ?_
      · simp only [allParts, opd_val h o _ hp, hps, Option.map_some]
      · rw [hw] at hu
        simp only [fillAV]
        rw [if_pos ⟨hs, hl⟩]; exact hu
noncomputable def pBld (z : AV) (ps : List ((Nat × Nat) × Opd)) : Pv S := (fun e _ κ => (blC S ps).run e (ofCs z.cells) fun c => κ (.ag c))
theorem pBld_ok (z : AV) (ps : List ((Nat × Nat) × Opd)) : PvOK (S := S) (.bld z ps) (pBld z ps) := fun e xe H κ q hH h hk => by
  refine blC_ok h ps fun w vs hvs hw => hk (.ag w) (.v _) ?_ rfl
  rw [ofCs_cl] at hw
  simp only [opv, hvs, hw, Option.map_some]; rfl

/-! ### strings and bytes, the library's entries -/
noncomputable def slowV (r : Option AV) (κ : V → FR) : FR := @Option.rec AV (fun _ => FR) .bad (fun a => κ (ofAV a)) r
theorem slowV_ok {q : Pr} {r : Option AV} {κ : V → FR} (h : ∀ a, r = some a → Agr (κ (ofAV a)) q) : Agr (slowV r κ) q := by
  cases r with
  | none => exact q.bad
  | some a => exact h a rfl
noncomputable def pk8 : Nat → Nat → Nat := @Nat.rec (fun _ => Nat → Nat) (fun _ => 0) (fun _ ih n => Nat.add (Nat.mul (ih (Nat.div n 18446744073709551616)) 256) (Nat.mod n 18446744073709551616))
noncomputable def ck8 : Nat → Nat → Bool := @Nat.rec (fun _ => Nat → Bool) (fun _ => true) (fun _ ih n => ifB (Nat.ble (Nat.mod n 18446744073709551616) 255) false (ih (Nat.div n 18446744073709551616)))
theorem pk8_ok : ∀ l n, ck8 l n = true → (digs 2 l n).mapM byteOf = some (byts l (pk8 l n))
  | 0, _, _ => rfl
  | l + 1, n, h => by
    have h' : ifB (Nat.ble (n % 18446744073709551616) 255) false (ck8 l (n / 18446744073709551616)) = true := h
    rw [ifB_ble] at h'
    split at h'
    · rename_i h1
      have e : pk8 (l + 1) n = pk8 l (n / 18446744073709551616) * 256 + n % 18446744073709551616 := rfl
      have hb : byteOf (scal 2 (n % 18446744073709551616)) = some (UInt8.ofNat (n % 18446744073709551616)) := by
        show (if (0 : Int) ≤ ((n % 18446744073709551616 : Nat) : Int) ∧ ((n % 18446744073709551616 : Nat) : Int) < 256 then some (UInt8.ofNat ((n % 18446744073709551616 : Nat) : Int).toNat) else none) = _
        rw [if_pos ⟨by omega, by omega⟩, Int.toNat_natCast]
      simp only [digs, byts, List.mapM_cons, hb, pk8_ok l _ h', e]
      have e1 : (pk8 l (n / 18446744073709551616) * 256 + n % 18446744073709551616) % 256 = n % 18446744073709551616 := by omega
      have e2 : (pk8 l (n / 18446744073709551616) * 256 + n % 18446744073709551616) / 256 = pk8 l (n / 18446744073709551616) := by omega
      rw [e1, e2]; rfl
    · cases h'
noncomputable def cvbC (c : V) (κ : V → FR) : FR := clRec (slowV (c.cl.mapM byteOf |>.map .str) κ) (fun _ _ _ => slowV (c.cl.mapM byteOf |>.map .str) κ)
  (fun k l n t _ => nilC' (slowV (c.cl.mapM byteOf |>.map .str) κ) (ifB (Nat.beq k 2) (slowV (c.cl.mapM byteOf |>.map .str) κ) (ifB (ck8 l n) (slowV (c.cl.mapM byteOf |>.map .str) κ) (κ (.s l (pk8 l n))))) t) c
where nilC' (s x : FR) (t : V) : FR := clRec x (fun _ _ _ => s) (fun _ _ _ _ _ => s) t
theorem cvbC_ok {q : Pr} {c : V} {κ : V → FR} (h : ∀ w s, c.cl.mapM byteOf = some s → w.pv = some (.str s) → Agr (κ w) q) : Agr (cvbC c κ) q := by
  have sl : Agr (slowV (c.cl.mapM byteOf |>.map .str) κ) q := slowV_ok fun a ha => by
    cases hm : c.cl.mapM byteOf with
    | none => rw [hm] at ha; cases ha
    | some s => rw [hm] at ha; obtain rfl := Option.some.inj ha; exact h _ s hm (ofAV_pv _).1
  unfold cvbC
  revert sl
  generalize slowV (c.cl.mapM byteOf |>.map .str) κ = s
  revert h
  refine cl_cases (P := fun c => (∀ w s, c.cl.mapM byteOf = some s → w.pv = some (.str s) → Agr (κ w) q) → Agr s q → Agr (clRec s (fun _ _ _ => s) (fun k l n t _ => cvbC.nilC' s (ifB (Nat.beq k 2) s (ifB (ck8 l n) s (κ (.s l (pk8 l n))))) t) c) q) (fun _ _ _ _ sl => sl) (fun k l n t _ h sl => ?_) (fun v h0 _ _ sl => by rw [h0]; exact sl) c
  show Agr (cvbC.nilC' s (ifB (Nat.beq k 2) s (ifB (ck8 l n) s (κ (.s l (pk8 l n))))) t) q
  revert h
  refine cl_cases (P := fun t => (∀ w s, (V.run k l n t).cl.mapM byteOf = some s → w.pv = some (.str s) → Agr (κ w) q) → Agr (cvbC.nilC' s (ifB (Nat.beq k 2) s (ifB (ck8 l n) s (κ (.s l (pk8 l n))))) t) q) (fun _ _ _ _ => sl) (fun _ _ _ _ _ _ => sl) (fun v h0 h1 h => ?_) t
  unfold cvbC.nilC'
  rw [h0, ifB_beq]
  split
  · rename_i hk
    subst hk
    refine ifB_ok (P := fun r => Agr r q) sl fun hc => h _ _ ?_ rfl
    simp only [V.cl, h1, List.append_nil]
    exact pk8_ok l n hc
  · exact sl
noncomputable def pCvb (x : Opd) : Pv S := (fun e H κ => slcK' ((opd S x).run e) .bad (fun _ c => cvbC c κ) (κ (.s 0 0))
  fun id ver lo len => arK id .bad (fun _ z l c => ifB (Nat.beq z 1) .bad (ifB (Nat.beq l ver) .bad (ifB (Nat.ble (Nat.add lo len) ver) .bad (cvbC (takeC (dropC c lo) len) κ)))) H.bl)
theorem pCvb_ok (x : Opd) : PvOK (S := S) (.cvb x) (pCvb x) := fun e xe H κ q hH h hk => by
  refine slcK'_ok (P := fun r => Agr r q) (opd_val h x) q.bad (fun nl c hc => cvbC_ok fun w s hs hw => hk w (.v (.str s)) ?_ (pv_den hw)) (fun hc => hk (.s 0 0) (.v (.str [])) ?_ rfl) (fun id ver lo len hc => arK_ok (P := fun r => Agr r q) q.bad _ hH fun nl z c hz => ?_)
  · simp only [opv, hc, hs, Option.map_some]
  · simp only [opv, hc]
  · rw [ifB_beq, ifB_beq, ifB_ble]
    by_cases h1 : z = 1
    · by_cases h2 : c.cl.length = ver
      · by_cases h3 : Nat.add lo len ≤ ver
        · rw [if_pos h1, if_pos h2, if_pos h3]
          refine cvbC_ok fun w s hs hw => hk w (.v (.str s)) ?_ (pv_den hw)
          subst h1
          have h4 : H.heap.get id = some (.arr nl 1 c.cl) := hz
          have h3' : lo + len ≤ ver := h3
          rw [takeC_eq, dropC_eq] at hs
          simp only [opv, hc, h4, h2, h3', and_self, if_true, hs, Option.map_some]
        · rw [if_pos h1, if_pos h2, if_neg h3]; exact q.bad
      · rw [if_pos h1, if_neg h2]; exact q.bad
    · rw [if_neg h1]; exact q.bad
noncomputable def up8 : Nat → Nat → Nat := @Nat.rec (fun _ => Nat → Nat) (fun _ => 0) (fun _ ih n => Nat.add (Nat.mul (ih (Nat.div n 256)) 18446744073709551616) (Nat.mod n 256))
theorem up8_eq : ∀ l n, digs 2 l (up8 l n) = (byts l n).map fun b => .int .u8 b.toNat
  | 0, _ => rfl
  | l + 1, n => by
    have e : up8 (l + 1) n = up8 l (n / 256) * 18446744073709551616 + n % 256 := rfl
    simp only [digs, byts, List.map_cons, e]
    have e1 : (up8 l (n / 256) * 18446744073709551616 + n % 256) % 18446744073709551616 = n % 256 := by omega
    have e2 : (up8 l (n / 256) * 18446744073709551616 + n % 256) / 18446744073709551616 = up8 l (n / 256) := by omega
    rw [e1, e2, up8_eq l]
    simp [scal, kk]
noncomputable def pCvs (x : Opd) : Pv S := (fun e _ κ => sK ((opd S x).run e) .bad fun l n => κ (.li false (.run 2 l (up8 l n) .nil)))
theorem pCvs_ok (x : Opd) : PvOK (S := S) (.cvs x) (pCvs x) := fun e xe H κ q hH h hk => by
  refine sK_ok (P := fun r => Agr r q) (opd_val h x) q.bad fun l n hs => hk (.li false _) (.v _) ?_ rfl
  simp only [opv, hs, V.av, V.cl, List.append_nil, up8_eq]
noncomputable def pCvl (x : Opd) : Pv S := (fun e _ κ => slcK' ((opd S x).run e) .bad (fun n c => κ (.li n c)) .bad fun _ _ _ _ => .bad)
theorem pCvl_ok (x : Opd) : PvOK (S := S) (.cvl x) (pCvl x) := fun e xe H κ q hH h hk => by
  refine slcK'_ok (P := fun r => Agr r q) (opd_val h x) q.bad (fun n c hc => hk (.li n c) (.v _) ?_ rfl) (fun _ => q.bad) (fun _ _ _ _ _ => q.bad)
  simp only [opv, hc]; rfl
noncomputable def ix8 (c : Nat) : Nat → Nat → Nat → Nat := @Nat.rec (fun _ => Nat → Nat → Nat) (fun _ _ => 9223372036854775807) (fun _ ih n i => ifB (Nat.beq (Nat.mod n 256) c) (ih (Nat.div n 256) (Nat.succ i)) (Nat.add i 9223372036854775808))
theorem ix8_eq (c : Nat) (hc : c < 256) : ∀ l n i, ((ix8 c l n i : Nat) : Int) - 9223372036854775808 = idxB (UInt8.ofNat c) i (byts l n)
  | 0, n, i => rfl
  | l + 1, n, i => by
    show ((ifB (Nat.beq (n % 256) c) (ix8 c l (n / 256) (i + 1)) (i + 9223372036854775808) : Nat) : Int) - _ = _
    rw [ifB_beq]
    simp only [byts, idxB]
    have e1 : (UInt8.ofNat (n % 256)).toNat = n % 256 := by simp
    have e2 : (UInt8.ofNat c).toNat = c := by simp; omega
    rw [e1, e2]
    by_cases h : n % 256 = c
    · rw [if_pos h, if_pos (by rw [h]; simp)]; omega
    · rw [if_neg h, if_neg (by rw [beq_dec]; simp [h])]
      exact ix8_eq c hc l _ _
noncomputable def natZ (k : Nat) (w : V) (κ : V → FR) : FR := slowV (natAV k w.cl) κ
noncomputable def pNat (k : Nat) (args : List Opd) : Pv S := (fun e _ κ => @Nat.rec (fun _ => FR) ((argC S args).run e fun w => natZ k w κ) (fun k1 _ => @Nat.rec (fun _ => FR)
  (@List.rec Opd (fun _ => FR) .bad (fun a t _ => @List.rec Opd (fun _ => FR) .bad (fun b t2 _ => @List.rec Opd (fun _ => FR) (sK ((opd S a).run e) .bad fun l n => uK ((opd S b).run e) .bad fun kb c => ifB (Nat.beq kb 0) .bad (ifB (Nat.ble c 255) .bad (κ (.i (ix8 c l n 0))))) (fun _ _ _ => .bad) t2) t) args)
  (fun _ _ => (argC S args).run e fun w => natZ k w κ) k1) k)
theorem pNat_ok (k : Nat) (args : List Opd) : PvOK (S := S) (.nat k args) (pNat k args) := fun e xe H κ q hH h hk => by
  have slow : Agr ((argC S args).run e fun w => natZ k w κ) q := argC_ok h args fun w vs hvs hc => slowV_ok fun a ha => hk _ (.v a) (by simp only [opv, hvs]; rw [← hc, ha]; rfl) (pv_den (ofAV_pv a).1)
  match k, slow with
  | 0, slow => exact slow
  | k + 2, slow => exact slow
  | 1, _ =>
    match args with
    | [] => exact q.bad
    | [a] => exact q.bad
    | a :: b :: c :: t => exact q.bad
    | [a, b] =>
      refine sK_ok (P := fun r => Agr r q) (opd_val h a) q.bad fun l n hs => uK_ok (P := fun r => Agr r q) (opd_val h b) q.bad fun kb c hb => ?_
      rw [ifB_beq, ifB_ble]
      split
      · rename_i h1
        subst h1
        split
        · rename_i h2
          have h2' : c ≤ 255 := h2
          refine hk (.i _) (.v _) ?_ rfl
          simp only [opv, allAV, hs, hb, Option.map_some, V.av, ix8_eq c (by omega)]
          simp [natAV, kk]
        · exact q.bad
      · exact q.bad
noncomputable def pBad : Pv S := (fun _ _ _ => .bad)
theorem pBad_ok (op : AOp) : PvOK (S := S) op pBad := fun _ _ _ _ q _ _ _ => q.bad

end
end Ey

namespace Ey
open Go (IntKind FloatKind BinOp UnOp)

/-! ### keys -/
noncomputable def mpA (d : FR) (f : Nat → FR) (y : AV) : FR := @AV.casesOn (fun _ => FR) y d (fun _ => d) (fun _ _ => d) (fun _ => d) (fun _ _ => d) (fun _ _ => d) d (fun _ _ _ _ => d) (fun _ => d) d (fun _ _ => d) (fun _ _ _ _ => d) (fun _ _ => d) d (fun _ _ => d) d (fun _ => d) (fun _ => d) (fun id => f id) d
noncomputable def mpK (v : V) (d : FR) (f : Nat → FR) : FR := @V.rec (fun _ => FR) (fun _ => d) (fun _ => d) (fun _ _ => d) (fun _ _ => d) (fun y => mpA d f y) (fun _ _ _ => d) d (fun _ _ _ _ => d) (fun _ _ => d) d (fun _ _ => d) (fun _ _ _ _ => d) (fun _ _ _ => d) d (fun _ _ _ => d) d (fun _ _ => d) (fun _ _ => d) d (fun _ _ _ _ => d) (fun _ _ _ _ _ => d) d d d (fun _ _ => d) (fun _ _ => d) v
theorem mpK_ok {P : FR → Prop} {v : V} {r : Option AV} (hv : v.val r) {d : FR} {f : Nat → FR} (hd : P d) (hf : ∀ id, r = some (.mp id) → P (f id)) : P (mpK v d f) := by
  cases v with
  | x y =>
    have h := hv _ rfl
    cases y with
    | mp id => exact hf id h
    | _ => exact hd
  | _ => exact hd
noncomputable def nuE (a b : V) (d : FR) (f : Bool → FR) : FR := numK a d (fun x => numK b d (fun y => f (Nat.beq x y)) (fun _ _ => d) (fun _ _ => d)) (fun k x => numK b d (fun _ => d) (fun k' y => ifB (Nat.beq k k') d (f (Nat.beq x y))) (fun _ _ => d)) (fun _ _ => d)
theorem nuE_ok {P : FR → Prop} {a b : V} {r r' : Option AV} (ha : a.val r) (hb : b.val r') {d : FR} {f : Bool → FR} (hd : P d) (hf : ∀ (k : IntKind) (x y : Int), r = some (.int k x) → r' = some (.int k y) → P (f (x == y))) : P (nuE a b d f) := by
  refine numK_ok ha hd (fun n hn => numK_ok hb hd (fun m hm => ?_) (fun _ _ _ => hd) (fun _ _ _ => hd)) (fun k n hn => numK_ok hb hd (fun _ _ => hd) (fun k' m hm => ?_) (fun _ _ _ => hd)) (fun _ _ _ => hd)
  · have := hf .i64 _ _ hn hm
    have e : Nat.beq n m = ((n : Int) - 9223372036854775808 == (m : Int) - 9223372036854775808) := by
      rw [beq_dec, Bool.eq_iff_iff]; simp; omega
    rw [e]; exact this
  · rw [ifB_beq]
    split
    · rename_i hk
      subst hk
      have := hf (kk k) _ _ hn hm
      have e : Nat.beq n m = ((n : Int) == (m : Int)) := by
        rw [beq_dec, Bool.eq_iff_iff]; simp; omega
      rw [e]; exact this
    · exact hd
noncomputable def keL (s : FR) (f : Bool → FR) : V → V → FR := clRec (fun b => clRec (f true) (fun _ _ _ => s) (fun _ _ _ _ _ => s) b) (fun h _ ih b => unK b s fun h' t' => nuE h h' s fun r => @Bool.rec (fun _ => FR) (f false) (ih t') r) (fun _ _ _ _ _ _ => s)
theorem keL_ok {P : FR → Prop} {s : FR} {f : Bool → FR} (hs : P s) : ∀ (a b : V), (∀ r, eqCells (List.replicate a.cl.length .i) a.cl b.cl = some r → P (f r)) → P (keL s f a b) := by
  refine cl_cases (P := fun a => ∀ b, (∀ r, eqCells (List.replicate a.cl.length .i) a.cl b.cl = some r → P (f r)) → P (keL s f a b)) (fun h t ih b hf => ?_) (fun k l n t ih b hf => ?_) (fun v h0 h1 b hf => ?_)
  · refine unK_ok (P := P) hs fun h' t' hb => ?_
    subst hb
    show P (nuE h h' s fun r => @Bool.rec (fun _ => FR) (f false) (keL s f t t') r)
    by_cases hp : h.pv = some h.av
    · by_cases hp' : h'.pv = some h'.av
      · refine nuE_ok (r := some h.av) (r' := some h'.av) (fun a ha => by rw [← ha, hp]) (fun a ha => by rw [← ha, hp']) hs fun k x y hx hy => ?_
        simp only [Option.some.injEq] at hx hy
        have e : ∀ r, eqCells (List.replicate (V.one h t).cl.length .i) (V.one h t).cl (V.one h' t').cl = r ↔ (match some (x == y) with
            | some true => eqCells (List.replicate t.cl.length .i) t.cl t'.cl
            | some false => some false
            | none => none) = r := fun r => by
          simp only [V.cl, List.length_cons, List.replicate_succ, eqCells, hx, hy, eqCell, if_true]
          exact Iff.rfl
        cases hxy : (x == y) with
        | true =>
          rw [hxy] at e
          exact ih t' fun r hr => hf r ((e _).2 hr)
        | false =>
          rw [hxy] at e
          exact hf false ((e _).2 rfl)
      · have : nuE h h' s (fun r => @Bool.rec (fun _ => FR) (f false) (keL s f t t') r) = s := by
          cases h' <;> first | exact absurd rfl hp' | (cases h <;> rfl)
        rw [this]; exact hs
    · have : nuE h h' s (fun r => @Bool.rec (fun _ => FR) (f false) (keL s f t t') r) = s := by
        cases h <;> first | exact absurd rfl hp | rfl
      rw [this]; exact hs
  · exact hs
  · have hk : keL s f v b = clRec (f true) (fun _ _ _ => s) (fun _ _ _ _ _ => s) b := congrFun (h0 (fun b => clRec (f true) (fun _ _ _ => s) (fun _ _ _ _ _ => s) b) _ _) b
    rw [hk]
    revert hf
    refine cl_cases (P := fun b => (∀ r, eqCells (List.replicate v.cl.length .i) v.cl b.cl = some r → P (f r)) → P (clRec (f true) (fun _ _ _ => s) (fun _ _ _ _ _ => s) b)) (fun _ _ _ _ => hs) (fun _ _ _ _ _ _ => hs) (fun w k0 k1 hf => ?_) b
    rw [k0]
    exact hf true (by rw [h1, k1]; rfl)
noncomputable def keyZ (n : Nat) (a b : V) (f : Bool → FR) : FR := @Nat.rec (fun _ => FR) (nuE a b .bad f) (fun p _ => agK a .bad fun c => agK b .bad fun c' => ifB (Nat.beq (lenC c') (Nat.succ p)) .bad (keL (eqS (List.replicate (Nat.succ p) .i) c c' f) f c c')) n
theorem keyZ_ok {q : Pr} {n : Nat} {a b : V} {x y : AV} (ha : a.val (some x)) (hb : b.val (some y)) (hx : keyOK n x = true) {f : Bool → FR} (hf : ∀ r, keyEq x y = some r → Agr (f r) q) : Agr (keyZ n a b f) q := by
  cases n with
  | zero =>
    refine nuE_ok (P := fun r => Agr r q) ha hb q.bad fun k u v hu hv => hf _ ?_
    simp only [Option.some.injEq] at hu hv
    rw [hu, hv]; simp [keyEq]
  | succ n =>
    refine agK_ok (P := fun r => Agr r q) ha q.bad fun c hc => agK_ok (P := fun r => Agr r q) hb q.bad fun c' hc' => ?_
    simp only [Option.some.injEq] at hc hc'
    subst hc; subst hc'
    have hl : c.cl.length = n + 1 := by
      unfold keyOK at hx
      simp only [Bool.and_eq_true, beq_iff_eq] at hx
      exact hx.1.1
    rw [ifB_beq, lenC_eq]
    split
    · rename_i hlen
      have key : ∀ r, eqCells (List.replicate c.cl.length .i) c.cl c'.cl = some r → Agr (f r) q := fun r hr => hf r (by simp only [keyEq]; rw [if_pos (by omega), hr])
      refine keL_ok (P := fun r => Agr r q) ?_ c c' key
      simp only [eqS]
      cases hr : eqAV (.agg (List.replicate (n + 1) .i)) (.agg c.cl) (.agg c'.cl) with
      | none => exact q.bad
      | some r =>
        simp only [eqAV, List.length_replicate] at hr
        split at hr
        · exact key r (by rw [hl]; exact hr)
        · cases hr
    · exact q.bad
noncomputable def alN (s : FR) : V → Nat → FR := clRec (fun m => @Nat.rec (fun _ => FR) s (fun _ _ => .bad) m) (fun h _ ih m => @Nat.rec (fun _ => FR) .bad (fun p _ => numK h .bad (fun _ => ih p) (fun _ _ => ih p) (fun _ _ => .bad)) m)
  (fun k l _ _ ih m => @Bool.rec (fun _ => FR) (ifB (Nat.ble l m) .bad (ih (Nat.sub m l))) .bad (Nat.beq k 1))
def isI : AV → Bool
  | .int _ _ => true
  | _ => false
theorem digs_isI (k : Nat) (hk : k ≠ 1) : ∀ l n, (digs k l n).all isI = true
  | 0, _ => rfl
  | l + 1, n => by
    simp only [digs, List.all_cons, digs_isI k hk l, Bool.and_true]
    match k, hk with
    | 0, _ => rfl
    | 1, h => exact absurd rfl h
    | k + 2, _ => rfl
theorem alN_ok {q : Pr} {s : FR} : ∀ (c : V) (m : Nat), (c.cl.length = m → c.cl.all isI = true → Agr s q) → Agr (alN s c m) q := by
  refine cl_cases (P := fun c => ∀ m, (c.cl.length = m → c.cl.all isI = true → Agr s q) → Agr (alN s c m) q) (fun h t ih m hs => ?_) (fun k l n t ih m hs => ?_) (fun v h0 h1 m hs => ?_)
  · cases m with
    | zero => exact q.bad
    | succ m =>
      have go : isI h.av = true → Agr (alN s t m) q := fun hi => ih m fun h1 h2 => hs (by simp only [V.cl, List.length_cons, h1]) (by simp only [V.cl, List.all_cons, hi, h2, Bool.and_self])
      refine numK_ok (P := fun r => Agr r q) (r := some h.av) (v := h) ?_ q.bad (fun n hn => go (by simp only [Option.some.injEq] at hn; rw [hn]; rfl)) (fun k n hn => go (by simp only [Option.some.injEq] at hn; rw [hn]; rfl)) (fun _ _ _ => q.bad)
      intro a ha
      have := (V.pv_sl ha).2.1
      rw [this]
  · show Agr (@Bool.rec (fun _ => FR) (ifB (Nat.ble l m) .bad (alN s t (Nat.sub m l))) .bad (Nat.beq k 1)) q
    cases hk : Nat.beq k 1 with
    | true => exact q.bad
    | false =>
      have hk' := Nat.ne_of_beq_eq_false hk
      show Agr (ifB (Nat.ble l m) .bad (alN s t (Nat.sub m l))) q
      rw [ifB_ble]
      split
      · rename_i hl
        refine ih _ fun h1 h2 => hs (by simp only [V.cl, List.length_append, digs_length, h1]; exact Nat.add_sub_cancel' hl) (by simp only [V.cl, List.all_append, digs_isI k hk', h2, Bool.and_self])
      · exact q.bad
  · have : alN s v m = @Nat.rec (fun _ => FR) s (fun _ _ => .bad) m := congrFun (h0 (fun m => @Nat.rec (fun _ => FR) s (fun _ _ => .bad) m) _ _) m
    rw [this]
    cases m with
    | zero => exact hs (by rw [h1]; rfl) (by rw [h1]; rfl)
    | succ m => exact q.bad
noncomputable def koK (n : Nat) (a : V) (s : FR) : FR := @Nat.rec (fun _ => FR) (numK a .bad (fun _ => s) (fun _ _ => s) (fun _ _ => .bad)) (fun p _ => agK a .bad fun c => alN s c (Nat.succ p)) n
theorem koK_ok {q : Pr} {n : Nat} {a : V} {r : Option AV} (ha : a.val r) {s : FR} (hs : ∀ x, r = some x → keyOK n x = true → Agr s q) : Agr (koK n a s) q := by
  cases n with
  | zero => exact numK_ok (P := fun r => Agr r q) ha q.bad (fun n hn => hs _ hn rfl) (fun k n hn => hs _ hn rfl) (fun _ _ _ => q.bad)
  | succ n =>
    refine agK_ok (P := fun r => Agr r q) ha q.bad fun c hc => alN_ok c _ fun h1 h2 => hs _ hc ?_
    simp only [keyOK, Bool.and_eq_true, beq_iff_eq, decide_eq_true_eq]
    refine ⟨⟨h1, by omega⟩, ?_⟩
    rw [List.all_eq_true] at h2 ⊢
    intro x hx
    have := h2 x hx
    cases x <;> first | rfl | cases this

/-! ### entries -/
noncomputable def mfC (n : Nat) (kv : V) (no : FR) (so : Nat → V → FR) : V → Nat → Nat → FR := clRec (fun ph _ => @Nat.rec (fun _ => FR) no (fun _ _ => .bad) ph)
  (fun h _ ih ph i => @Nat.rec (fun _ => FR) (keyZ n kv h fun r => @Bool.rec (fun _ => FR) (ih 2 i) (ih 1 i) r) (fun p _ => @Nat.rec (fun _ => FR) (vK h .bad (so i h)) (fun _ _ => ih 0 (Nat.succ i)) p) ph)
  (fun _ _ _ _ _ _ _ => .bad)
def mfP (q : Pr) (no : FR) (so : Nat → V → FR) (r : Option (Nat × AV)) : Prop := match r with
  | none => Agr no q
  | some (j, x) => ∀ v : V, v.av = x → v.pv = some x → Agr (so j v) q
theorem mfC_ok {q : Pr} {n : Nat} {kv : V} {x : AV} (hkv : kv.val (some x)) (hx : keyOK n x = true) {no : FR} {so : Nat → V → FR} : ∀ (c : V) (i : Nat), 
    ((∀ r, mpFind x (prs c.cl) i = some r → mfP q no so r) → Agr (mfC n kv no so c 0 i) q) ∧
    ((∀ y l, c.cl = y :: l → mfP q no so (some (i, y))) → Agr (mfC n kv no so c 1 i) q) ∧
    ((∀ y l, c.cl = y :: l → ∀ r, mpFind x (prs l) (i + 1) = some r → mfP q no so r) → Agr (mfC n kv no so c 2 i) q) := by
  refine cl_cases (P := fun c => ∀ i, ((∀ r, mpFind x (prs c.cl) i = some r → mfP q no so r) → Agr (mfC n kv no so c 0 i) q) ∧
    ((∀ y l, c.cl = y :: l → mfP q no so (some (i, y))) → Agr (mfC n kv no so c 1 i) q) ∧
    ((∀ y l, c.cl = y :: l → ∀ r, mpFind x (prs l) (i + 1) = some r → mfP q no so r) → Agr (mfC n kv no so c 2 i) q)) (fun h t ih i => ⟨fun hr => ?_, fun hr => ?_, fun hr => ?_⟩) (fun k l n t ih i => ⟨fun _ => q.bad, fun _ => q.bad, fun _ => q.bad⟩) (fun v h0 h1 i => ?_)
  · show Agr (keyZ n kv h fun r => @Bool.rec (fun _ => FR) (mfC n kv no so t 2 i) (mfC n kv no so t 1 i) r) q
    by_cases hp : h.pv = some h.av
    · refine keyZ_ok (x := x) (y := h.av) hkv (fun a ha => by rw [← ha, hp]) hx fun r hk => ?_
      have e : ∀ y l, t.cl = y :: l → mpFind x (prs (V.one h t).cl) i = match r with
          | true => some (some (i, y))
          | false => mpFind x (prs l) (i + 1) := fun y l ht => by
        simp only [V.cl, ht, prs, mpFind, hk]
        cases r <;> rfl
      cases r with
      | true => exact (ih i).2.1 fun y l ht => hr _ (e y l ht)
      | false => exact (ih i).2.2 fun y l ht r' h' => hr _ ((e y l ht).trans h')
    · have : (keyZ n kv h fun r => @Bool.rec (fun _ => FR) (mfC n kv no so t 2 i) (mfC n kv no so t 1 i) r) = .bad ∨ True := .inr trivial
      have bad : ∀ f : Bool → FR, Agr (keyZ n kv h f) q := fun f => by
        cases n with
        | zero =>
          show Agr (nuE kv h .bad f) q
          refine numK_ok (P := fun r => Agr r q) (r := some x) hkv q.bad (fun _ _ => ?_) (fun _ _ _ => ?_) (fun _ _ _ => q.bad) <;> (cases h <;> first | exact absurd rfl hp | exact q.bad)
        | succ n =>
          refine agK_ok (P := fun r => Agr r q) hkv q.bad fun c hc => ?_
          cases h <;> first | exact absurd rfl hp | exact q.bad
      exact bad _
  · refine vK_ok (P := fun r => Agr r q) q.bad fun hp => ?_
    exact hr h.av t.cl rfl h rfl hp
  · exact (ih (i + 1)).1 fun r hh => hr _ _ rfl r hh
  · have e : ∀ ph i, mfC n kv no so v ph i = @Nat.rec (fun _ => FR) no (fun _ _ => .bad) ph := fun ph i => congrFun (congrFun (h0 (fun ph _ => @Nat.rec (fun _ => FR) no (fun _ _ => .bad) ph) _ _) ph) i
    refine ⟨fun hr => ?_, fun _ => ?_, fun _ => ?_⟩
    · rw [e]; exact hr none (by rw [h1]; rfl)
    · rw [e]; exact q.bad
    · rw [e]; exact q.bad

theorem prs_set : ∀ (l : List AV) (i : Nat) (a b : AV), prs ((l.set (2 * i) a).set (2 * i + 1) b) = (prs l).set i (a, b)
  | [], i, a, b => by simp [prs]
  | [x], i, a, b => by cases i <;> simp [prs, Nat.mul_add]
  | x :: y :: l, 0, a, b => rfl
  | x :: y :: l, i + 1, a, b => by
    have e1 : 2 * (i + 1) = 2 * i + 1 + 1 := by omega
    have e2 : 2 * (i + 1) + 1 = 2 * i + 1 + 1 + 1 := by omega
    rw [e2, e1]
    simp only [List.set_cons_succ, prs, prs_set l i a b]
theorem prs_app : ∀ (l : List AV) (a b : AV), l.length % 2 = 0 → prs (l ++ [a, b]) = prs l ++ [(a, b)]
  | [], a, b, _ => rfl
  | [x], a, b, h => by simp at h
  | x :: y :: l, a, b, h => by
    simp only [List.cons_append, prs]
    rw [prs_app l a b (by simp only [List.length_cons] at h; omega)]
noncomputable def snC (z : V) : V → V := clRec z (fun h _ ih => .one h ih) (fun k l n _ ih => .run k l n ih)
theorem snC_eq (z c : V) : (snC z c).cl = c.cl ++ z.cl := by
  refine cl_cases (P := fun c => (snC z c).cl = c.cl ++ z.cl) (fun h t ih => ?_) (fun k l n t ih => ?_) (fun v h0 h1 => ?_) c
  · show h.av :: (snC z t).cl = _; rw [ih]; rfl
  · show digs k l n ++ (snC z t).cl = _; rw [ih]; simp only [V.cl, List.append_assoc]
  · have : snC z v = z := h0 z _ _
    rw [this, h1]; rfl

section
variable {S : List Nat}
noncomputable def tuB (ok : Bool) (h : V) (b : Bool) : V := @Bool.rec (fun _ => V) h (.tu (.one h (.one (.b b) .nil))) ok
noncomputable def pMpl (n : Nat) (z : AV) (ok : Bool) (m k : Opd) : Pv S := (fun e H κ => mpK ((opd S m).run e) .bad fun id => koK n ((opd S k).run e) (mpB id .bad (fun c => mfC n ((opd S k).run e) (κ (tuB ok (ofAV z) false)) (fun _ h => κ (tuB ok h true)) c 0 0) H.bl))
theorem tuB_den (ok : Bool) {h : V} {x : AV} (hp : h.pv = some x) (b : Bool) : (tuB ok h b).den (.v (if ok then .tup [x, .bool b] else x)) := by
  cases ok with
  | false => exact pv_den hp
  | true =>
    have := (V.pv_sl hp).2.1
    show Sl.v _ = Sl.v (.tup [h.av, .bool b])
    rw [this]; rfl
theorem pMpl_ok (n : Nat) (z : AV) (ok : Bool) (m k : Opd) : PvOK (S := S) (.mpl n z ok m k) (pMpl n z ok m k) := fun e xe H κ q hH h hk => by
  show Agr (mpK ((opd S m).run e) .bad fun id => koK n ((opd S k).run e) (mpB id .bad (fun c => mfC n ((opd S k).run e) (κ (tuB ok (ofAV z) false)) (fun _ h => κ (tuB ok h true)) c 0 0) H.bl)) q
  refine mpK_ok (P := fun r => Agr r q) (opd_val h m) q.bad fun id hid => koK_ok (opd_val h k) fun x hx hko => mpB_ok (P := fun r => Agr r q) q.bad _ hH fun c he hc => (mfC_ok (x := x) (by rw [← hx]; exact opd_val h k) hko c 0).1 fun r hr => ?_
  have hg : H.heap.get id = some (.map (prs c.cl)) := hc
  cases r with
  | none =>
    refine hk _ (.v (if ok then .tup [z, .bool false] else z)) ?_ (tuB_den ok (ofAV_pv z).1 false)
    simp only [opv, hid, hx, hko, if_true, hg, hr]
  | some p =>
    obtain ⟨j, y⟩ := p
    intro v hv hp
    refine hk _ (.v (if ok then .tup [y, .bool true] else y)) ?_ (tuB_den ok hp true)
    simp only [opv, hid, hx, hko, if_true, hg, hr]
noncomputable def smL : V → V → Bool := fun a b => AV.sames a.cl b.cl
noncomputable def pSts (sz : Nat) (a v : Opd) : Pv S := (fun e H κ => adK (opn a) ((opd S a).run e) .bad (fun _ _ => .bad) (fun _ => .bad)
  (fun i o => ceK ((opd S v).run e) .bad fun w => ifB (Nat.ble H.ro i) .bad (ifB (Nat.beq (lenC w) sz) .bad (obK i .bad (fun c => ifB (smL (takeC (dropC c o) sz) w) .bad (κ .un)) H.bl))) (fun _ _ _ _ => .bad))
theorem pSts_ok (sz : Nat) (a v : Opd) : PvOK (S := S) (.sts sz a v) (pSts sz a v) := fun e xe H κ q hH h hk => by
  show Agr (adK (opn a) ((opd S a).run e) .bad (fun _ _ => .bad) (fun _ => .bad)
    (fun i o => ceK ((opd S v).run e) .bad fun w => ifB (Nat.ble H.ro i) .bad (ifB (Nat.beq (lenC w) sz) .bad (obK i .bad (fun c => ifB (smL (takeC (dropC c o) sz) w) .bad (κ .un)) H.bl))) (fun _ _ _ _ => .bad)) q
  refine adK_ok (P := fun r => Agr r q) (opd_dle h a) q.bad (fun _ _ _ => q.bad) (fun _ _ => q.bad) (fun i o hs => ceK_ok (P := fun r => Agr r q) q.bad fun w hp hw => ?_) (fun _ _ _ _ _ => q.bad)
  rw [ifB_ble]
  split
  · rename_i hro
    rw [ifB_beq, lenC_eq]
    split
    · rename_i hl
      refine obK_ok (P := fun r => Agr r q) q.bad _ hH fun c hc => ?_
      cases hsm : smL (takeC (dropC c o) sz) w with
      | false => exact q.bad
      | true =>
        refine hk .un .un ?_ rfl
        have hg : H.heap.get i = some (.obj c.cl) := hc
        have hro' : H.heap.ro ≤ i := hro
        have hv := opd_val h v _ hp
        simp only [smL, takeC_eq, dropC_eq] at hsm
        rw [hw] at hl hsm
        simp only [opv, hs, hv, hro', hl, and_self, if_true, hg, hsm]
    · exact q.bad
  · exact q.bad
noncomputable def pChk (a b : Opd) : Pv S := (fun e _ κ => vK ((opd S a).run e) .bad (vK ((opd S b).run e) .bad (ifB (AV.same2 ((opd S a).run e).av ((opd S b).run e).av) .bad (κ .no))))
theorem pChk_ok (a b : Opd) : PvOK (S := S) (.chk a b) (pChk a b) := fun e xe H κ q _ h hk => by
  show Agr (vK ((opd S a).run e) .bad (vK ((opd S b).run e) .bad (ifB (AV.same2 ((opd S a).run e).av ((opd S b).run e).av) .bad (κ .no)))) q
  refine vK_ok (P := fun r => Agr r q) q.bad fun hp => vK_ok (P := fun r => Agr r q) q.bad fun hp2 => ifB_ok (P := fun r => Agr r q) q.bad fun hs => hk .no .no ?_ rfl
  have h1 := opd_val h a _ hp
  have h2 := opd_val h b _ hp2
  simp only [opv, h1, h2, hs, if_true]
noncomputable def pRmc (m : Nat) (a b : Opd) : Pv S := (fun e _ κ => nnZ ((opd S b).run e) .bad fun y => ifB (Nat.beq y m) .bad (binZ .rem ((opd S a).run e) ((opd S b).run e) κ))
theorem pRmc_ok (m : Nat) (a b : Opd) : PvOK (S := S) (.rmc m a b) (pRmc m a b) := fun e xe H κ q _ h hk => by
  show Agr (nnZ ((opd S b).run e) .bad fun y => ifB (Nat.beq y m) .bad (binZ .rem ((opd S a).run e) ((opd S b).run e) κ)) q
  refine nnZ_ok (opd_val h b) q.bad fun k n hn => ?_
  rw [ifB_beq]
  split
  · rename_i he
    subst he
    refine binZ_ok .rem (opd_val h a) (opd_val h b) fun w r hr hp => hk w (.v r) ?_ (pv_den hp)
    simp only [bin2, hn] at hr
    simp only [opv, hn]
    split at hr
    · rename_i a' b' ha hb; cases hb; rw [ha]; simp only [hr, Option.map_some, if_true]
    · cases hr
  · exact q.bad
end
end Ey
