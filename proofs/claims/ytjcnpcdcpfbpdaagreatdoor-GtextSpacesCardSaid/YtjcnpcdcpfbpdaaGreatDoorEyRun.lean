/- What running a program of the small language answers: operations, code, calls. -/
import Derived.Test.YtjcnpcdcpfbpdaaGreatDoorEyVal
namespace Ey
open Go (IntKind FloatKind BinOp UnOp)

def cmpI (op : BinOp) (a b : Int) : Option Bool :=
  match op with
  | .eql => some (a == b) | .neq => some (a != b) | .lss => some (decide (a < b)) | .leq => some (decide (a ≤ b))
  | .gtr => some (decide (a > b)) | .geq => some (decide (a ≥ b)) | _ => none

def arI (op : BinOp) (k : IntKind) (a b : Int) : Option Int :=
  match op with
  | .add => some (k.wrap (a + b)) | .sub => some (k.wrap (a - b)) | .mul => some (k.wrap (a * b))
  | .quo => if b = 0 then none else some (k.wrap (a.tdiv b))
  | .rem => if b = 0 then none else some (a.tmod b)
  | .and => some (k.wrap ((BitVec.ofInt k.bits a &&& BitVec.ofInt k.bits b).toNat))
  | .or => some (k.wrap ((BitVec.ofInt k.bits a ||| BitVec.ofInt k.bits b).toNat))
  | .xor => some (k.wrap ((BitVec.ofInt k.bits a ^^^ BitVec.ofInt k.bits b).toNat))
  | .andNot => some (k.wrap ((BitVec.ofInt k.bits a &&& ~~~ BitVec.ofInt k.bits b).toNat))
  | _ => none

def shI (op : BinOp) (k : IntKind) (a b : Int) : Option Int :=
  if b < 0 then none else
  match op with
  | .shl => some (k.wrap (a * 2 ^ (min b.toNat k.bits)))
  | .shr => some (a.fdiv (2 ^ (min b.toNat k.bits)))
  | _ => none

def strLess : List UInt8 → List UInt8 → Bool
  | _, [] => false
  | [], _ :: _ => true
  | a :: x, b :: y => a < b || (a == b && strLess x y)

/-- two cells of plain kinds held against each other -/
def eqCell : BK → AV → AV → Option Bool
  | .b, .bool a, .bool b => some (a == b)
  | .i, .int k a, .int k' b => if k = k' then some (a == b) else none
  | .s, .str a, .str b => some (a == b)
  | _, _, _ => none

def eqCells : List BK → List AV → List AV → Option Bool
  | [], [], [] => some true
  | k :: ks, a :: x, b :: y => match eqCell k a b with
    | some true => eqCells ks x y
    | some false => some false
    | none => none
  | _, _, _ => none

def eqAV (k : EqK) (x y : AV) : Option Bool :=
  match k, x, y with
  | .bool, .bool a, .bool b => some (a == b)
  | .agg ks, .agg a, .agg b => if a.length = ks.length ∧ b.length = ks.length then eqCells ks a b else none
  | .ptr, .nilp, .nilp => some true
  | .ptr, .nilp, .ptr _ _ => some false
  | .ptr, .nilp, .imm _ => some false
  | .ptr, .nilp, .ap _ _ _ _ => some false
  | .ptr, .ptr _ _, .nilp => some false
  | .ptr, .imm _, .nilp => some false
  | .ptr, .ap _ _ _ _, .nilp => some false
  | .slice, .list n _, .list true [] => some n
  | .slice, .cap0, .list true [] => some false
  | .fn, .nilfn, .nilfn => some true
  | .fn, .fn _ _, .nilfn => some false
  | .iface, .niliface, .niliface => some true
  | .iface, .iface _ _, .niliface => some false
  | .map, .nilmap, .nilmap => some true
  | .map, .mp _, .nilmap => some false
  | _, _, _ => none

/-- numbers with a point, by their bits -/
def fltAV (op : BinOp) (k : FloatKind) (a b : Nat) : Option AV :=
  match op with
  | .add => (k.format.add a b).map (.flt k)
  | .sub => (k.format.sub a b).map (.flt k)
  | .mul => (k.format.mul a b).map (.flt k)
  | .quo => (k.format.div a b).map (.flt k)
  | .eql => some (.bool (k.format.order a b == some .eq))
  | .neq => some (.bool (k.format.order a b != some .eq))
  | .lss => some (.bool (k.format.order a b == some .lt))
  | .leq => some (.bool (k.format.order a b == some .lt || k.format.order a b == some .eq))
  | .gtr => some (.bool (k.format.order a b == some .gt))
  | .geq => some (.bool (k.format.order a b == some .gt || k.format.order a b == some .eq))
  | _ => none

def binAV (op : BinOp) (x y : AV) : Option AV :=
  match x, y with
  | .int k a, .int k' b =>
    match op with
    | .shl | .shr => (shI op k a b).map (.int k)
    | .eql | .neq | .lss | .leq | .gtr | .geq => if k = k' then (cmpI op a b).map .bool else none
    | _ => if k = k' then (arI op k a b).map (.int k) else none
  | .str a, .str b =>
    match op with
    | .add => if a.length + b.length ≤ 2 ^ 40 then some (.str (a ++ b)) else none
    | .eql => some (.bool (a == b)) | .neq => some (.bool (a != b))
    | .lss => some (.bool (strLess a b)) | .leq => some (.bool (strLess a b || a == b))
    | .gtr => some (.bool !(strLess a b || a == b)) | .geq => some (.bool !(strLess a b))
    | _ => none
  | .flt k a, .flt k' b => if k = k' then fltAV op k a b else none
  | _, _ => none

def unAV (op : UnOp) (x : AV) : Option AV :=
  match op, x with
  | .not, .bool b => some (.bool !b)
  | .neg, .int k n => some (.int k (k.wrap (0 - n)))
  | .xor, .int k n => some (.int k (k.wrap ((BitVec.ofInt k.bits (if k.signed then -1 else k.max) ^^^ BitVec.ofInt k.bits n).toNat)))
  | _, _ => none

def byteOf : AV → Option UInt8
  | .int .u8 n => if 0 ≤ n ∧ n < 256 then some (UInt8.ofNat n.toNat) else none
  | _ => none

def lenAV : AV → Option Nat
  | .list _ xs => some xs.length
  | .cap0 => some 0
  | .ms _ _ _ len => some len
  | _ => none

def i64 (n : Int) : AV := .int .i64 n

def getI : AV → Option Int
  | .int _ n => some n
  | _ => none

/-- the bounds of a slice expression: low, high (none: the length), max; what is asked of a capacity that is not known fails -/
def slBounds (len : Nat) (lo hi : Option AV) : Option (Nat × Nat) :=
  match (match hi with | none => some (len : Int) | some v => getI v) with
  | none => none
  | some h => match (match lo with | none => some (0 : Int) | some v => getI v) with
    | none => none
    | some l => if 0 ≤ l ∧ l ≤ h ∧ h ≤ len then some (l.toNat, h.toNat) else none

def slAV (H : Heap) (sz : Nat) (x : AV) (lo hi mx : Option AV) : Option AV :=
  match mx with
  | some m =>
    -- only x[:0:0] is taken
    match x, lo, hi, m with
    | .list n _, none, some (.int .i64 0), .int .i64 0 => some (if n then .list true [] else .cap0)
    | .cap0, none, some (.int .i64 0), .int .i64 0 => some .cap0
    | _, _, _, _ => none
  | none =>
    match x with
    | .list n xs => if xs.all (fun x => x.cells.length == sz) then (slBounds xs.length lo hi).map fun (l, h) => .list n ((xs.drop l).take (h - l)) else none
    | .cap0 => (slBounds 0 lo hi).map fun _ => .cap0
    | .ms id ver a len => match H.get id with
      | some (.arr _ z _) => if z = sz then (slBounds len lo hi).map fun (l, h) => .ms id ver (a + l) (h - l) else none
      | _ => none
    | _ => none

/-- a load through an address -/
def ldS (e : Env) (H : Heap) (sz : Nat) (ag : Bool) : Sl → Option AV
  | .lp s off => match e.get s with
    | .lv cs => part sz ag cs off
    | _ => none
  | .v (.imm x) => if x.cells.length = sz then part sz ag x.cells 0 else none
  | .v (.ptr id off) => match H.get id with
    | some (.obj cs) => part sz ag cs off
    | _ => none
  | .v (.ap id ver i off) => match H.get id with
    | some (.arr _ _ xs) => if xs.length = ver then match xs[i]? with
      | some x => part sz ag x.cells off
      | none => none else none
    | _ => none
  | _ => none

/-- an address moved on by some cells, to a part of so many -/
def addrS (off sz : Nat) (ag : Bool) : Sl → Option Sl
  | .lp s o => some (.lp s (o + off))
  | .v (.imm x) => (part sz ag x.cells off).map fun y => .v (.imm y)
  | .v (.ptr id o) => some (.v (.ptr id (o + off)))
  | .v (.ap id ver i o) => some (.v (.ap id ver i (o + off)))
  | _ => none

def fillAV (cs : List AV) : List ((Nat × Nat) × AV) → Option (List AV)
  | [] => some cs
  | ((off, sz), v) :: r => if v.cells.length = sz ∧ off + sz ≤ cs.length then fillAV (putAt cs off v.cells) r else none

def mklAV (xs : List AV) : List (Nat × AV) → Option (List AV)
  | [] => some xs
  | (i, v) :: r => match xs[i]? with
    | some o => if v.cells.length = o.cells.length then mklAV (xs.set i v) r else none
    | none => none

def allAV (e : Env) : List Opd → Option (List AV)
  | [] => some []
  | o :: r => match e.av o with
    | none => none
    | some v => (allAV e r).map (v :: ·)

def allParts {κ : Type} (e : Env) : List (κ × Opd) → Option (List (κ × AV))
  | [] => some []
  | (i, o) :: r => match e.av o with
    | none => none
    | some v => (allParts e r).map ((i, v) :: ·)

def optAV (e : Env) : Option Opd → Option (Option AV)
  | none => some none
  | some o => (e.av o).map some

def cntB (c : UInt8) : List UInt8 → Nat
  | [] => 0
  | x :: s => if Nat.beq x.toNat c.toNat then cntB c s + 1 else cntB c s
def idxB (c : UInt8) : Nat → List UInt8 → Int
  | _, [] => -1
  | i, x :: s => if Nat.beq x.toNat c.toNat then (i : Int) else idxB c (i + 1) s

/-- what entries of the library's answer -/
def natAV : Nat → List AV → Option AV
  | 0, [.str s, .int .u8 c] => some (.int .i64 (cntB c.toNat.toUInt8 s))
  | 1, [.str s, .int .u8 c] => some (.int .i64 (idxB c.toNat.toUInt8 0 s))
  | 2, [.flt .f64 b] => some (.int .u64 b)
  | 3, [.int .u64 n] => some (.flt .f64 n.toNat)
  | 4, [.int _ n] => some (.flt .f64 (FloatKind.nearest .f64 n))
  | 5, [.int .i64 a, .int .i64 b, .int .i64 c] => some (.int .i64 (min (min a b) c))
  | 6, [.int .i64 a, .int .i64 b, .int .i64 c] => some (.int .i64 (max (max a b) c))
  | _, _ => none

/-- values that are plain to see to be one -/
def AV.same : AV → AV → Bool
  | .bool a, .bool b => a == b
  | .int k a, .int k' b => decide (k = k') && a == b
  | .list true [], .list true [] => true
  | .cap0, .cap0 => true
  | .ms a b c d, .ms a' b' c' d' => a == a' && b == b' && c == c' && d == d'
  | .nilp, .nilp => true
  | .ptr a b, .ptr a' b' => a == a' && b == b'
  | _, _ => false
theorem AV.same_eq {x y : AV} (h : AV.same x y = true) : x = y := by
  unfold AV.same at h
  split at h <;> simp_all

/-- values of which it is plain to see that they are one, aggregates of numbers too -/
def AV.sames : List AV → List AV → Bool
  | [], [] => true
  | x :: r, y :: t => AV.same x y && AV.sames r t
  | _, _ => false
theorem AV.sames_eq : ∀ {x y : List AV}, AV.sames x y = true → x = y
  | [], [], _ => rfl
  | [], _ :: _, h => by cases h
  | _ :: _, [], h => by cases h
  | x :: r, y :: t, h => by
    simp only [AV.sames, Bool.and_eq_true] at h
    rw [AV.same_eq h.1, AV.sames_eq h.2]

/-- keys of maps: a number, or n numbers -/
def keyOK (n : Nat) : AV → Bool
  | .int _ _ => n == 0
  | .agg cs => cs.length == n && decide (0 < n) && cs.all fun c => match c with | .int _ _ => true | _ => false
  | _ => false
def keyEq : AV → AV → Option Bool
  | .int k a, .int k' b => if k = k' then some (a == b) else none
  | .agg xs, .agg ys => if ys.length = xs.length then eqCells (List.replicate xs.length .i) xs ys else none
  | _, _ => none
/-- where a map's entry of a key stands, and what it holds -/
def mpFind (k : AV) : List (AV × AV) → Nat → Option (Option (Nat × AV))
  | [], _ => some none
  | e :: r, i => match keyEq k e.1 with
    | some true => some (some (i, e.2))
    | some false => mpFind k r (i + 1)
    | none => none

/-- what an operation that changes nothing answers -/
def opv (e : Env) (H : Heap) : AOp → Option Sl
  | .mv x => match e.sl x with
    | .v y => some (.v y)
    | .lp s o => some (.lp s o)
    | _ => none
  | .pick c a b => match e.av c with
    | some (.bool t) => (e.av (if t then a else b)).map .v
    | _ => none
  | .bin op x y => match e.av x, e.av y with
    | some a, some b => (binAV op a b).map .v
    | _, _ => none
  | .eq neg k x y => match e.av x, e.av y with
    | some a, some b => (eqAV k a b).map fun r => .v (.bool (r != neg))
    | _, _ => none
  | .un op x => match e.av x with
    | some a => (unAV op a).map .v
    | _ => none
  | .rmc m x y => match e.av x, e.av y with
    | some a, some (.int k b) => if b = m then (binAV .rem a (.int k b)).map .v else none
    | _, _ => none
  | .cvi k x => match e.av x with
    | some (.int _ n) => some (.v (.int k (k.wrap n)))
    | _ => none
  | .cvb x => match e.av x with
    | some (.list _ xs) => (xs.mapM byteOf).map fun s => .v (.str s)
    | some .cap0 => some (.v (.str []))
    | some (.ms id ver lo len) => match H.get id with
      | some (.arr _ 1 xs) => if xs.length = ver ∧ lo + len ≤ ver then (((xs.drop lo).take len).mapM byteOf).map fun s => .v (.str s) else none
      | _ => none
    | _ => none
  | .cvs x => match e.av x with
    | some (.str s) => some (.v (.list false (s.map fun b => .int .u8 b.toNat)))
    | _ => none
  | .cvl x => match e.av x with
    | some (.list n xs) => some (.v (.list n xs))
    | _ => none
  | .mkl z n parts => match allParts e parts with
    | some ps => (mklAV (List.replicate n z) ps).map fun xs => .v (.list false xs)
    | none => none
  | .bld z parts => match allParts e parts with
    | some ps => (fillAV z.cells ps).map fun cs => .v (.agg cs)
    | none => none
  | .fa off sz ag a => addrS off sz ag (e.sl a)
  | .ia n sz ag a i => match e.av i with
    | some (.int _ k) => if 0 ≤ k ∧ k < n then addrS (k.toNat * sz) sz ag (e.sl a) else none
    | _ => none
  | .ix sz x i => match e.av x, e.av i with
    | some (.list _ xs), some (.int _ k) => if 0 ≤ k then match xs[k.toNat]? with
        | some y => if y.cells.length = sz then some (.v (.imm y)) else none
        | none => none else none
    | some (.ms id ver lo len), some (.int _ k) => if 0 ≤ k ∧ k < len then match H.get id with
        | some (.arr _ z _) => if z = sz then some (.v (.ap id ver (lo + k.toNat) 0)) else none
        | _ => none else none
    | _, _ => none
  | .ld sz ag a => (ldS e H sz ag (e.sl a)).map .v
  | .ldl sz ag s => match e.get s with
    | .lv cs => (part sz ag cs 0).map .v
    | _ => none
  | .ldi sz ag a => match e.sl a with
    | .v (.imm x) => if x.cells.length = sz then (part sz ag x.cells 0).map .v else none
    | _ => none
  | .ldp sz ag a => match e.sl a with
    | .lp s off => (ldS e H sz ag (.lp s off)).map .v
    | _ => none
  | .ldo sz ag a => match e.sl a with
    | .v (.ptr id off) => if id < H.next then (ldS e H sz ag (.v (.ptr id off))).map .v else none
    | _ => none
  | .ixl sz x i => match e.av x, e.av i with
    | some (.list _ xs), some (.int _ k) => if 0 ≤ k then match xs[k.toNat]? with
        | some y => if y.cells.length = sz then some (.v (.imm y)) else none
        | none => none else none
    | _, _ => none
  | .fld off sz ag x => match e.av x with
    | some (.agg cs) => (part sz ag cs off).map .v
    | _ => none
  | .ixa n sz ag x i => match e.av x, e.av i with
    | some (.agg cs), some (.int _ k) => if 0 ≤ k ∧ k < n then (part sz ag cs (k.toNat * sz)).map .v else none
    | _, _ => none
  | .ixs x i => match e.av x, e.av i with
    | some (.str s), some (.int _ k) => if 0 ≤ k then match s[k.toNat]? with
        | some b => some (.v (.int .u8 b.toNat))
        | none => none else none
    | _, _ => none
  | .len x => match e.av x with
    | some v => (lenAV v).map fun (n : Nat) => .v (i64 n)
    | none => none
  | .lns x => match e.av x with
    | some (.str s) => some (.v (i64 s.length))
    | _ => none
  | .cap x => match e.av x with
    | some .cap0 => some (.v (i64 0))
    | some (.list true []) => some (.v (i64 0))
    | _ => none
  | .sl sz x lo hi mx => match e.av x, optAV e lo, optAV e hi, optAV e mx with
    | some v, some l, some h, some m => (slAV H sz v l h m).map .v
    | _, _, _, _ => none
  | .bim sz x => match e.av x with
    | some v => if v.cells.length = sz then some (.v (.imm v)) else none
    | none => none
  | .sla n a lo hi => match e.av a, optAV e lo, optAV e hi with
    | some (.imm x), some l, some h => if x.cells.length = n then (slBounds n l h).map fun (l, h) => .v (.list false ((x.cells.drop l).take (h - l))) else none
    | _, _, _ => none
  | .ss x lo hi => match e.av x, optAV e lo, optAV e hi with
    | some (.str s), some l, some h => (slBounds s.length l h).map fun (l, h) => .v (.str ((s.drop l).take (h - l)))
    | _, _, _ => none
  | .ext i x => match e.av x with
    | some (.tup vs) => (vs[i]?).map .v
    | _ => none
  | .mkif t x => match e.av x with
    | some v => some (.v (.iface t v))
    | none => none
  | .tas t z ok x => match e.av x with
    | some (.iface t' v) =>
      if t' = t then some (.v (if ok then .tup [v, .bool true] else v))
      else if ok then some (.v (.tup [z, .bool false])) else none
    | some .niliface => if ok then some (.v (.tup [z, .bool false])) else none
    | _ => none
  | .mkfn f cap => match allAV e cap with
    | some vs => some (.v (.fn f vs))
    | none => none
  | .nilc x => match e.sl x with
    | .lp s o => some (.lp s o)
    | .v (.imm y) => some (.v (.imm y))
    | .v (.ptr id o) => some (.v (.ptr id o))
    | .v (.ap id ver i o) => some (.v (.ap id ver i o))
    | .v (.fn f c) => some (.v (.fn f c))
    | _ => none
  | .mnmx mx x y => match e.av x, e.av y with
    | some (.int k a), some (.int k' b) => if k = k' then some (.v (.int k (if mx then max a b else min a b))) else none
    | _, _ => none
  | .nat k args => match allAV e args with
    | some vs => (natAV k vs).map .v
    | none => none
  | .st0 a v => match e.sl a, e.av v with
    | .lp _ _, some (.agg []) => some .un
    | _, _ => none
  | .sts sz a v => match e.sl a, e.av v with
    | .v (.ptr id off), some w => if H.ro ≤ id ∧ w.cells.length = sz then match H.get id with
      | some (.obj cs) => if AV.sames ((cs.drop off).take sz) w.cells then some .un else none
      | _ => none else none
    | _, _ => none
  | .mpl n z ok m k => match e.av m, e.av k with
    | some (.mp id), some kv => if keyOK n kv then match H.get id with
      | some (.map es) => match mpFind kv es 0 with
        | some (some (_, v)) => some (.v (if ok then .tup [v, .bool true] else v))
        | some none => some (.v (if ok then .tup [z, .bool false] else z))
        | none => none
      | _ => none else none
    | _, _ => none
  | .bad => none
  | _ => none

/-- an operation that says less of what it reads -/
def AOp.base : AOp → AOp
  | .ldi sz ag a => .ld sz ag a
  | .ldp sz ag a => .ld sz ag a
  | .ldo sz ag a => .ld sz ag a
  | .ixl sz x i => .ix sz x i
  | .rmc _ x y => .bin .rem x y
  | op => op

theorem opv_base {e : Env} {H : Heap} {op : AOp} {x : Sl} (h : opv e H op = some x) : opv e H op.base = some x := by
  cases op
  case ldi sz ag a =>
    simp only [opv, AOp.base] at h ⊢
    split at h
    · rename_i y hy; rw [hy]; simp only [ldS]; split at h <;> rename_i hl
      · rw [if_pos hl]; exact h
      · cases h
    · cases h
  case ldp sz ag a =>
    simp only [opv, AOp.base] at h ⊢
    split at h
    · rename_i s off hy; rw [hy]; exact h
    · cases h
  case ldo sz ag a =>
    simp only [opv, AOp.base] at h ⊢
    split at h
    · rename_i id off hy; rw [hy]; split at h
      · exact h
      · cases h
    · cases h
  case ixl sz y i =>
    simp only [opv, AOp.base] at h ⊢
    split at h
    · rename_i hy hi; rw [hy, hi]; exact h
    · cases h
  case rmc m y i =>
    simp only [opv, AOp.base] at h ⊢
    split at h
    · rename_i hy hi
      split at h
      · rw [hy, hi]; exact h
      · cases h
    · cases h
  all_goals exact h

/-- one element of an array overwritten, in part -/
def putElem (x : AV) (off : Nat) (new : List AV) : AV :=
  if x.cells.length = new.length ∧ off = 0 then (match x with | .agg _ => .agg new | _ => new.headD .undef) else .agg (putAt x.cells off new)

/-- a store through an address -/
def stS (e : Env) (H : Heap) (new : List AV) : Sl → Option (Env × Heap)
  | .lp s off => match e.get s with
    | .lv cs => if off + new.length ≤ cs.length then some ((s, .lv (putAt cs off new)) :: e, H) else none
    | _ => none
  | .v (.ptr id off) => if id < H.ro then none else match H.get id with
    | some (.obj cs) => if off + new.length ≤ cs.length then some (e, H.put id (some (.obj (putAt cs off new)))) else none
    | _ => none
  | .v (.ap id ver i off) => if id < H.ro then none else match H.get id with
    | some (.arr n z xs) => if xs.length = ver then match xs[i]? with
      | some x => if off + new.length ≤ x.cells.length then
          some (e, H.put id (some (.arr n z (xs.set i (putElem x off new)))))
        else none
      | none => none else none
    | _ => none
  | _ => none

/-- what is to be appended: the elements, as values of so many cells -/
def elemsOf (H : Heap) (sz : Nat) : AV → Option (List AV)
  | .list _ xs => if xs.all (fun x => x.cells.length == sz) then some xs else none
  | .cap0 => some []
  | .str s => if sz = 1 then some (s.map fun b => .int .u8 b.toNat) else none
  | .ms id ver lo len => match H.get id with
    | some (.arr _ z xs) => if z = sz ∧ xs.length = ver ∧ lo + len ≤ ver then some ((xs.drop lo).take len) else none
    | _ => none
  | _ => none

def mostLen : Nat := 2 ^ 30

/-- append -/
def appS (H : Heap) (sz : Nat) (b x : AV) : Option (AV × Heap) :=
  match elemsOf H sz x with
  | none => none
  | some ys =>
    match b with
    | .ms id ver lo len =>
      if id < H.ro then none else
      match H.get id with
      | some (.arr n z xs) =>
        if z = sz ∧ xs.length = ver ∧ xs.length + ys.length ≤ mostLen then
          if lo = 0 ∧ len = ver then some (.ms id (ver + ys.length) 0 (len + ys.length), H.put id (some (.arr (n && ys.isEmpty) z (xs ++ ys))))
          else if lo + len + ys.length ≤ ver then some (.ms id ver lo (len + ys.length), H.put id (some (.arr n z (xs.take (lo + len) ++ ys ++ xs.drop (lo + len + ys.length)))))
          else none
        else none
      | _ => none
    | .list true [] => if ys.length ≤ mostLen then some (.ms H.next ys.length 0 ys.length, H.new (.arr ys.isEmpty sz ys)) else none
    | .cap0 => if ys.length ≤ mostLen then (if ys.isEmpty then some (.cap0, H) else some (.ms H.next ys.length 0 ys.length, H.new (.arr false sz ys))) else none
    | _ => none

def fzAll (f : Heap → AV → Option (AV × Heap)) : Heap → List AV → Option (List AV × Heap)
  | H, [] => some ([], H)
  | H, x :: r => match f H x with
    | none => none
    | some (y, H1) => match fzAll f H1 r with
      | none => none
      | some (ys, H2) => some (y :: ys, H2)

/-- arrays in a value become slices that are written no more -/
def fzV : Fz → Heap → AV → Option (AV × Heap)
  | .no, H, x => some (x, H)
  | .sl f, H, .ms id ver lo len => if id < H.ro then none else match H.get id with
    | some (.arr nl _ xs) => if xs.length = ver ∧ lo + len ≤ ver then
        match f with
        | .no => some (.list nl ((xs.drop lo).take len), H.put id none)
        | f => match fzAll (fzV f) (H.put id none) ((xs.drop lo).take len) with
          | some (ys, H') => some (.list nl ys, H')
          | none => none
      else none
    | _ => none
  | .sl _, H, .cap0 => some (.list false [], H)
  | .sl _, H, x => some (x, H)
  | .ag i f r, H, .agg cs => match cs[i]? with
    | none => none
    | some c => match fzV f H c with
      | none => none
      | some (c', H1) => if c.one && c'.one then fzV r H1 (.agg (cs.set i c')) else none
  | .ag _ _ _, _, _ => none

inductive CRes where
  | ret (v : AV) (H : Heap)
  | pan (v : AV) (H : Heap)

inductive Ex where
  | nrm
  | exit (id : Nat)
  | ret

inductive Out where
  | go (x : Ex) (e : Env) (H : Heap)
  | pan (v : AV) (e : Env) (H : Heap)

def sameLd (e : Env) (H : Heap) (c : Nat × Nat × Bool × Opd) : Bool :=
  match e.sl c.2.2.2, e.get c.1 with
  | .v y, .v x => match ldS e H c.2.1 c.2.2.1 (.v y) with
    | some z => AV.same z x
    | none => false
  | _, _ => false

abbrev Caller := Nat → List AV → Heap → Option CRes

def setDst (d : Option Nat) (x : Sl) (e : Env) : Env := match d with
  | some s => (s, x) :: e
  | none => e

/-- one operation -/
def opS (cl : Caller) (d : Option Nat) (e : Env) (H : Heap) : AOp → Option Out
  | .alv cs => match d with
    | some s => match e.get s with
      | .lv _ => none
      | _ => some (.go .nrm ((s, .lv cs) :: e) H)
    | none => none
  | .blv sz x => match d, e.av x with
    | some s, some v => match e.get s with
      | .lv _ => none
      | _ => if v.cells.length = sz then some (.go .nrm ((s, .lv v.cells) :: e) H) else none
    | _, _ => none
  | .aob cs => some (.go .nrm (setDst d (.v (.ptr H.next 0)) e) (H.new (.obj cs)))
  | .bob sz x => match e.av x with
    | some v => if v.cells.length = sz then some (.go .nrm (setDst d (.v (.ptr H.next 0)) e) (H.new (.obj v.cells))) else none
    | none => none
  | .st sz a v => match e.av v with
    | some w => if w.cells.length = sz then match stS e H w.cells (e.sl a) with
      | some (e', H') => some (.go .nrm e' H')
      | none => none else none
    | none => none
  | .sto sz a v => match e.sl a with
    | .v x => match e.av v with
      | some w => if w.cells.length = sz then match stS e H w.cells (.v x) with
        | some (_, H') => some (.go .nrm (setDst d .un e) H')
        | none => none else none
      | none => none
    | _ => none
  | .app sz b x => match e.av b, e.av x with
    | some u, some v => match appS H sz u v with
      | some (r, H') => some (.go .nrm (setDst d (.v r) e) H')
      | none => none
    | _, _ => none
  | .mkm z n parts => match allParts e parts with
    | some ps => match mklAV (List.replicate n z) ps with
      | some xs => some (.go .nrm (setDst d (.v (.ms H.next xs.length 0 xs.length)) e) (H.new (.arr false z.cells.length xs)))
      | none => none
    | none => none
  | .apz sz z b n => match e.av b, e.av n with
    | some (.list true []), some (.int .i64 k) => if 1 ≤ k ∧ k ≤ mostLen ∧ z.cells.length = sz then
        some (.go .nrm (setDst d (.v (.ms H.next k.toNat 0 k.toNat)) e) (H.new (.arr false sz (List.replicate k.toNat z)))) else none
    | _, _ => none
  | .mks sz z n => match e.av n with
    | some (.int _ k) => if 0 ≤ k ∧ k ≤ mostLen ∧ z.cells.length = sz then
        some (.go .nrm (setDst d (.v (.ms H.next k.toNat 0 k.toNat)) e) (H.new (.arr false sz (List.replicate k.toNat z)))) else none
    | _ => none
  | .mkmp => some (.go .nrm (setDst d (.v (.mp H.next)) e) (H.new (.map [])))
  | .mpu n m k v => match e.av m, e.av k, e.av v with
    | some (.mp id), some kv, some x => if keyOK n kv ∧ H.ro ≤ id then match H.get id with
      | some (.map es) => match mpFind kv es 0 with
        | some (some (i, _)) => some (.go .nrm (setDst d .un e) (H.put id (some (.map (es.set i (kv, x))))))
        | some none => some (.go .nrm (setDst d .un e) (H.put id (some (.map (es ++ [(kv, x)])))))
        | none => none
      | _ => none else none
    | _, _, _ => none
  | .cpy sz x y => match e.av x, e.av y with
    | some (.ms id ver lo len), some v => if id < H.ro then none else match elemsOf H sz v, H.get id with
      | some ys, some (.arr n z xs) => if z = sz ∧ xs.length = ver ∧ lo + len ≤ ver then
          let m := min len ys.length
          some (.go .nrm (setDst d (.v (i64 m)) e) (H.put id (some (.arr n z (xs.take lo ++ ys.take m ++ xs.drop (lo + m)))))) else none
      | _, _ => none
    | _, _ => none
  | .clr sz z x => match e.av x with
    | some (.ms id ver lo len) => if id < H.ro then none else match H.get id with
      | some (.arr n w xs) => if w = sz ∧ z.cells.length = sz ∧ xs.length = ver ∧ lo + len ≤ ver then
          some (.go .nrm (setDst d (.v (.tup [])) e) (H.put id (some (.arr n w (xs.take lo ++ List.replicate len z ++ xs.drop (lo + len)))))) else none
      | _ => none
    | _ => none
  | .thaw sz s => match e.get s with
    | .v (.list true []) => some (.go .nrm ((s, .v (.ms H.next 0 0 0)) :: e) (H.new (.arr true sz [])))
    | _ => none
  | .frz f s => match e.get s with
    | .v x => match fzV f H x with
      | some (y, H') => some (.go .nrm ((s, .v y) :: e) H')
      | none => none
    | .lv cs => match fzV f H (.agg cs) with
      | some (.agg ds, H') => some (.go .nrm ((s, .lv ds) :: e) H')
      | _ => none
    | _ => none
  | .call f args => match allAV e args with
    | some vs => match cl f vs H with
      | some (.ret v H') => some (.go .nrm (setDst d (.v v) e) H')
      | some (.pan v H') => some (.pan v e H')
      | none => none
    | none => none
  | .callc f args cs => match allAV e args with
    | some vs => match cl f vs H with
      | some (.ret v H') => if cs.all (sameLd (setDst d (.v v) e) H') then some (.go .nrm (setDst d (.v v) e) H') else none
      | _ => none
    | none => none
  | .callv f args => match e.av f, allAV e args with
    | some (.fn g cap), some vs => match cl g (vs ++ cap) H with
      | some (.ret v H') => some (.go .nrm (setDst d (.v v) e) H')
      | some (.pan v H') => some (.pan v e H')
      | none => none
    | _, _ => none
  | .pan x => match e.av x with
    | some (.iface t v) => some (.pan (.iface t v) e H)
    | _ => none
  | op => match opv e H op with
    | some x => some (.go .nrm (setDst d x e) H)
    | none => none

def wantedS (e : Env) : Option (Nat × Bool) → Option Bool
  | none => some true
  | some (s, w) => match e.get s with
    | .v (.bool b) => some (b == w)
    | .un => some false
    | _ => none

def opsS (cl : Caller) : List AInstr → Env → Heap → Option Out
  | [], e, H => some (.go .nrm e H)
  | i :: r, e, H => match wantedS e i.guard with
    | none => none
    | some false => opsS cl r (setDst i.dst .un e) H
    | some true => match opS cl i.dst e H i.op with
      | some (.go _ e' H') => opsS cl r e' H'
      | x => x

/-- only what is kept, in order; pointers into local variables are dropped -/
def keepS (l : List Nat) (e : Env) : Env := l.map fun s => (s, match e.get s with
  | .lp _ _ => .no
  | x => x)

def loopS (b : Env → Heap → Option Out) (keep : List Nat) : Nat → Env → Heap → Option Out
  | 0, _, _ => none
  | n + 1, e, H => match b e H with
    | some (.go .nrm e' H') => loopS b keep n (keepS keep e') H'
    | x => x

/-- behind a deferred call that came back: the frame's own values, and the call's memory -/
def backS (e' : Env) : Option Out → Option Out
  | some (.go (.exit _) _ _) => none
  | some (.go _ _ H'') => some (.go .ret e' H'')
  | _ => none

/-- a body's end, and the deferred call: what it recovers -/
def dfrS (clo : AV → Heap → Option Out) : Option Out → Option Out
  | some (.go (.exit _) _ _) => none
  | some (.go _ e' H') => backS e' (clo .niliface H')
  | some (.pan v e' H') => backS e' (clo v H')
  | none => none

def initEnv : Nat → List AV → Env
  | _, [] => []
  | i, v :: r => (i, .v v) :: initEnv (i + 1) r

def exec (n : Nat) (cl : Caller) : ACode → Env → Heap → Option Out
  | .skip, e, H => some (.go .nrm e H)
  | .ops l, e, H => opsS cl l e H
  | .dops l, e, H => match opsS cl l e H with
    | some (.go _ e' H') => some (.go .nrm e' H')
    | _ => none
  | .seq a b, e, H => match exec n cl a e H with
    | some (.go .nrm e' H') => exec n cl b e' H'
    | x => x
  | .cond c a b, e, H => match e.av c with
    | some (.bool true) => exec n cl a e H
    | some (.bool false) => exec n cl b e H
    | _ => none
  | .block id a, e, H => match exec n cl a e H with
    | some (.go (.exit i) e' H') => if i = id then some (.go .nrm e' H') else some (.go (.exit i) e' H')
    | x => x
  | .loop keep a, e, H => loopS (exec n cl a) keep n (keepS keep e) H
  | .exit id, e, H => some (.go (.exit id) e H)
  | .ret, e, H => some (.go .ret e H)
  | .dfr s f cap rs body clo, e, H => match allAV e cap with
    | none => none
    | some cs => dfrS (fun v H' => exec n cl clo ((rs, .v v) :: initEnv 0 cs) H') (exec n cl body ((s, .v (.fn f cs)) :: e) H)

def resS (e : Env) (H : Heap) : ARes → Option AV
  | .tmp t => match e.get t with
    | .v x => some x
    | _ => none
  | .cell s sz ag => ldS e H sz ag (e.sl (.t s))

def resAll (e : Env) (H : Heap) : List ARes → Option (List AV)
  | [] => some []
  | r :: rs => match resS e H r with
    | none => none
    | some v => (resAll e H rs).map (v :: ·)

def resOf (e : Env) (H : Heap) (l : List ARes) : Option AV :=
  match l with
  | [r] => resS e H r
  | l => (resAll e H l).map .tup

mutual
/-- are all heap numbers that a value holds below n? -/
def AV.under (n : Nat) : AV → Bool
  | .list _ xs => AV.underAll n xs
  | .ms id _ _ _ => id < n
  | .imm v => v.under n
  | .ptr id _ => id < n
  | .ap id _ _ _ => id < n
  | .fn _ c => AV.underAll n c
  | .iface _ v => v.under n
  | .agg cs => AV.underAll n cs
  | .tup vs => AV.underAll n vs
  | .mp id => id < n
  | _ => true
def AV.underAll (n : Nat) : List AV → Bool
  | [] => true
  | v :: r => v.under n && AV.underAll n r
end

/-- how a call ends, out of how its body does -/
def finS (af : AFn) (H : Heap) : Option Out → Option CRes
  | some (.go (.exit _) _ _) => none
  | some (.go _ e H') => match resOf e H' af.results with
    | none => none
    | some v => if af.pure then (if v.under H.next then some (.ret v H) else none) else some (.ret v { H' with ro := H.ro })
  | some (.pan v _ H') => if af.pure then (if v.under H.next then some (.pan v H) else none) else some (.pan v { H' with ro := H.ro })
  | none => none

def bodyH (af : AFn) (H : Heap) : Heap := if af.pure then { H with ro := H.next } else H

def callN (Φ : Nat → Option AFn) : Nat → Caller
  | 0, _, _, _ => none
  | n + 1, f, args, H => match Φ f with
    | none => none
    | some af => if args.length = af.params then finS af H (exec n (callN Φ n) af.code (initEnv 0 args) (bodyH af H)) else none

end Ey
