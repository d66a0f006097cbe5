/- Values, heaps and programs of a small language of our own, and what running one answers. Nothing of the model's memory stands here. -/
import GoSem.Claims
import Derived.Defers
import Derived.Recover
import Derived.Below
import Derived.Laws.IdiomCopy
import Derived.Laws.AppendOwn
import Derived.Laws.Build
import Derived.Laws.StructEq
import Derived.Laws.Strings
import Derived.Lib.IndexBytes
import Derived.Lib.Bytealg
import Derived.Laws.Externs
import Derived.KernelRfl
import Derived.Laws.Tables
import Derived.ChangeKeysEq
import Derived.Laws.Cover2
import Derived.Laws.MakeOwn
namespace Ey
open Go (IntKind FloatKind BinOp UnOp)

inductive AV where
  | undef
  | bool (b : Bool)
  | int (k : IntKind) (n : Int)
  | str (s : List UInt8)
  | flt (k : FloatKind) (bits : Nat)
  | list (nil : Bool) (xs : List AV)
  | cap0
  | ms (id ver lo len : Nat)
  | imm (v : AV)
  | nilp
  | ptr (id off : Nat)
  | ap (id ver i off : Nat)
  | fn (f : Nat) (cap : List AV)
  | nilfn
  | iface (t : Nat) (v : AV)
  | niliface
  | agg (cs : List AV)
  | tup (vs : List AV)
  | mp (id : Nat)
  | nilmap
  deriving Inhabited

def AV.cells : AV → List AV
  | .agg cs => cs
  | .tup _ => []
  | .undef => []
  | v => [v]

def AV.one : AV → Bool
  | .agg _ => false
  | .tup _ => false
  | .undef => false
  | _ => true

def part (sz : Nat) (ag : Bool) (cs : List AV) (off : Nat) : Option AV :=
  if ag then (if off + sz ≤ cs.length then some (.agg ((cs.drop off).take sz)) else none) else cs[off]?

def putAt (cs : List AV) (off : Nat) (new : List AV) : List AV := cs.take off ++ new ++ cs.drop (off + new.length)

inductive Blk where
  | obj (cs : List AV)
  | arr (nil : Bool) (sz : Nat) (xs : List AV)
  | map (es : List (AV × AV))
  deriving Inhabited

structure Heap where
  next : Nat
  ro : Nat
  get : Nat → Option Blk

def Heap.put (H : Heap) (id : Nat) (b : Option Blk) : Heap := { H with get := fun i => if i = id then b else H.get i }
def Heap.new (H : Heap) (b : Blk) : Heap := { H with next := H.next + 1, get := fun i => if i = H.next then some b else H.get i }

inductive Sl where
  | no
  | un
  | v (x : AV)
  | lv (cs : List AV)
  | lp (s off : Nat)
  deriving Inhabited

abbrev Env := List (Nat × Sl)
def Env.get : Env → Nat → Sl
  | [], _ => .no
  | (k, x) :: e, s => if s = k then x else Env.get e s

inductive Opd where
  | t (n : Nat)
  | k (v : AV)
  deriving Inhabited

def Env.sl (e : Env) : Opd → Sl
  | .k v => .v v
  | .t n => match e.get n with
    | .lv _ => .lp n 0
    | x => x

def Env.av (e : Env) (o : Opd) : Option AV := match e.sl o with
  | .v x => some x
  | _ => none

inductive BK where
  | b | i | s
  deriving Inhabited, DecidableEq

inductive EqK where
  | bool | agg (ks : List BK) | ptr | slice | fn | iface | map
  deriving Inhabited, DecidableEq

inductive Fz where
  | no
  | sl (e : Fz)
  | ag (i : Nat) (f r : Fz)
  | pt (e : Fz)
  deriving Inhabited

inductive AOp where
  | mv (x : Opd)
  | pick (c a b : Opd)
  | bin (op : BinOp) (x y : Opd)
  | eq (neg : Bool) (k : EqK) (x y : Opd)
  | un (op : UnOp) (x : Opd)
  | cvi (k : IntKind) (x : Opd)
  | cvb (x : Opd)                                   -- string([]byte)
  | cvs (x : Opd)                                   -- []byte(string)
  | cvl (x : Opd)                                   -- []byte of a slice that was just made
  | mkl (z : AV) (n : Nat) (parts : List (Nat × Opd))
  | mkm (z : AV) (n : Nat) (parts : List (Nat × Opd)) -- the same, that may be written
  | bld (z : AV) (parts : List ((Nat × Nat) × Opd))  -- each part: its place, its size
  | fa (off sz : Nat) (ag : Bool) (a : Opd)         -- a field's address
  | ia (n sz : Nat) (ag : Bool) (a i : Opd)         -- an element's address, in an array that lies in memory
  | ix (sz : Nat) (x i : Opd)                       -- an element's address, in a slice
  | ld (sz : Nat) (ag : Bool) (a : Opd)
  | ldl (sz : Nat) (ag : Bool) (s : Nat)              -- the whole of a local variable
  | ldi (sz : Nat) (ag : Bool) (a : Opd)              -- out of what is never written
  | ldp (sz : Nat) (ag : Bool) (a : Opd)              -- out of a local variable
  | ldo (sz : Nat) (ag : Bool) (a : Opd)              -- out of a variable on the heap
  | ixl (sz : Nat) (x i : Opd)                        -- an element's address, in a slice that is never written
  | fld (off sz : Nat) (ag : Bool) (x : Opd)
  | ixa (n sz : Nat) (ag : Bool) (x i : Opd)        -- an element of an array value
  | ixs (x i : Opd)                                 -- a byte of a string
  | len (x : Opd)                                   -- of a slice
  | lns (x : Opd)                                   -- of a string
  | cap (x : Opd)
  | sl (sz : Nat) (x : Opd) (lo hi mx : Option Opd)  -- a slice, sliced
  | ss (x : Opd) (lo hi : Option Opd)               -- a string, sliced
  | ext (i : Nat) (x : Opd)
  | mkif (t : Nat) (x : Opd)
  | tas (t : Nat) (z : AV) (ok : Bool) (x : Opd)
  | mkfn (f : Nat) (cap : List Opd)
  | nilc (x : Opd)
  | mnmx (mx : Bool) (x y : Opd)
  | alv (cs : List AV)                              -- a new local variable
  | blv (sz : Nat) (x : Opd)
  | bim (sz : Nat) (x : Opd)                          -- one that is never written
  | sla (n : Nat) (a : Opd) (lo hi : Option Opd)      -- an array of one-cell elements that is never written, sliced
  | aob (cs : List AV)                              -- a new variable on the heap
  | bob (sz : Nat) (x : Opd)
  | st (sz : Nat) (a v : Opd)
  | sto (sz : Nat) (a v : Opd)                        -- into what is no local variable
  | app (sz : Nat) (b x : Opd)
  | apz (sz : Nat) (z : AV) (b n : Opd)                -- so many zeros behind nothing
  | mks (sz : Nat) (z : AV) (n : Opd)
  | cpy (sz : Nat) (d s : Opd)
  | clr (sz : Nat) (z : AV) (x : Opd)
  | thaw (sz s : Nat)                                 -- a nil slice in a slot becomes an array that may be written
  | frz (f : Fz) (s : Nat)                            -- arrays in a slot become slices that are written no more
  | call (f : Nat) (args : List Opd)
  | callc (f : Nat) (args : List Opd) (cs : List (Nat × Nat × Bool × Opd)) -- behind the call, what was loaded ahead of it loads as it did
  | callv (f : Opd) (args : List Opd)
  | callp (f : Nat) (fz : List Fz) (args : List Opd) -- a call in an empty memory; what it answers is frozen, its memory given up
  | pan (x : Opd)
  | nat (k : Nat) (args : List Opd)                   -- what an entry of the library's, or an operation on three numbers, answers
  | st0 (a v : Opd)                                   -- a value of no cells, into a local variable
  | sts (sz : Nat) (a v : Opd)                        -- a store of what is there
  | rmc (m : Nat) (x y : Opd)                         -- a remainder, by what is m
  | chk (x y : Opd)                                   -- two values are one: nothing, else no answer
  | mkmp                                              -- a new map
  | mpl (n : Nat) (z : AV) (ok : Bool) (m k : Opd)    -- what a map holds at a key of n numbers (0: of one, that is no aggregate)
  | mpu (n : Nat) (m k v : Opd)                       -- a map's entry
  | bad                                               -- whatever is not said: it answers nothing
  deriving Inhabited

structure AInstr where
  dst : Option Nat
  op : AOp
  guard : Option (Nat × Bool) := none
  deriving Inhabited

inductive ACode where
  | skip
  | ops (l : List AInstr)
  | dops (l : List AInstr)                            -- a region whose order does not matter, and that does not panic
  | seq (a b : ACode)
  | cond (c : Opd) (a b : ACode)
  | block (id : Nat) (a : ACode)
  | loop (keep : List Nat) (a : ACode)
  | exit (id : Nat)
  | ret
  | dfr (s f : Nat) (cap : List Opd) (rs : Nat) (body clo : ACode) -- a function value is made and deferred, that recovers at once; the rest; what the function value does
  deriving Inhabited

inductive ARes where
  | tmp (t : Nat)
  | cell (s sz : Nat) (ag : Bool)
  deriving Inhabited

structure AFn where
  params : Nat
  code : ACode
  results : List ARes
  pure : Bool
  deriving Inhabited

end Ey

namespace Ey
open Go (IntKind FloatKind BinOp UnOp)

def cmpI (op : BinOp) (a b : Int) : Option Bool :=
  match op with
  | .eql => some (a == b) | .neq => some (a != b) | .lss => some (decide (a < b)) | .leq => some (decide (a ≤ b))
  | .gtr => some (decide (a > b)) | .geq => some (decide (a ≥ b)) | _ => none

def arI (op : BinOp) (k : IntKind) (a b : Int) : Option Int :=
  match op with
  | .add => some (k.wrap (a + b)) | .sub => some (k.wrap (a - b)) | .mul => some (k.wrap (a * b))
  | .quo => if b = 0 then none else some (k.wrap (a.tdiv b))
  | .rem => if b = 0 then none else some (a.tmod b)
  | .and => some (k.wrap ((BitVec.ofInt k.bits a &&& BitVec.ofInt k.bits b).toNat))
  | .or => some (k.wrap ((BitVec.ofInt k.bits a ||| BitVec.ofInt k.bits b).toNat))
  | .xor => some (k.wrap ((BitVec.ofInt k.bits a ^^^ BitVec.ofInt k.bits b).toNat))
  | .andNot => some (k.wrap ((BitVec.ofInt k.bits a &&& ~~~ BitVec.ofInt k.bits b).toNat))
  | _ => none

def shI (op : BinOp) (k : IntKind) (a b : Int) : Option Int :=
  if b < 0 then none else
  match op with
  | .shl => some (k.wrap (a * 2 ^ (min b.toNat k.bits)))
  | .shr => some (a.fdiv (2 ^ (min b.toNat k.bits)))
  | _ => none

def strLess : List UInt8 → List UInt8 → Bool
  | _, [] => false
  | [], _ :: _ => true
  | a :: x, b :: y => a < b || (a == b && strLess x y)

def eqCell : BK → AV → AV → Option Bool
  | .b, .bool a, .bool b => some (a == b)
  | .i, .int k a, .int k' b => if k = k' then some (a == b) else none
  | .s, .str a, .str b => some (a == b)
  | _, _, _ => none

def eqCells : List BK → List AV → List AV → Option Bool
  | [], [], [] => some true
  | k :: ks, a :: x, b :: y => match eqCell k a b with
    | some true => eqCells ks x y
    | some false => some false
    | none => none
  | _, _, _ => none

def eqAV (k : EqK) (x y : AV) : Option Bool :=
  match k, x, y with
  | .bool, .bool a, .bool b => some (a == b)
  | .agg ks, .agg a, .agg b => if a.length = ks.length ∧ b.length = ks.length then eqCells ks a b else none
  | .ptr, .nilp, .nilp => some true
  | .ptr, .nilp, .ptr _ _ => some false
  | .ptr, .nilp, .imm _ => some false
  | .ptr, .nilp, .ap _ _ _ _ => some false
  | .ptr, .ptr _ _, .nilp => some false
  | .ptr, .imm _, .nilp => some false
  | .ptr, .ap _ _ _ _, .nilp => some false
  | .slice, .list n _, .list true [] => some n
  | .slice, .cap0, .list true [] => some false
  | .fn, .nilfn, .nilfn => some true
  | .fn, .fn _ _, .nilfn => some false
  | .iface, .niliface, .niliface => some true
  | .iface, .iface _ _, .niliface => some false
  | .map, .nilmap, .nilmap => some true
  | .map, .mp _, .nilmap => some false
  | _, _, _ => none

def fltAV (op : BinOp) (k : FloatKind) (a b : Nat) : Option AV :=
  match op with
  | .add => (k.format.add a b).map (.flt k)
  | .sub => (k.format.sub a b).map (.flt k)
  | .mul => (k.format.mul a b).map (.flt k)
  | .quo => (k.format.div a b).map (.flt k)
  | .eql => some (.bool (k.format.order a b == some .eq))
  | .neq => some (.bool (k.format.order a b != some .eq))
  | .lss => some (.bool (k.format.order a b == some .lt))
  | .leq => some (.bool (k.format.order a b == some .lt || k.format.order a b == some .eq))
  | .gtr => some (.bool (k.format.order a b == some .gt))
  | .geq => some (.bool (k.format.order a b == some .gt || k.format.order a b == some .eq))
  | _ => none

def binAV (op : BinOp) (x y : AV) : Option AV :=
  match x, y with
  | .int k a, .int k' b =>
    match op with
    | .shl | .shr => (shI op k a b).map (.int k)
    | .eql | .neq | .lss | .leq | .gtr | .geq => if k = k' then (cmpI op a b).map .bool else none
    | _ => if k = k' then (arI op k a b).map (.int k) else none
  | .str a, .str b =>
    match op with
    | .add => if a.length + b.length ≤ 2 ^ 40 then some (.str (a ++ b)) else none
    | .eql => some (.bool (a == b)) | .neq => some (.bool (a != b))
    | .lss => some (.bool (strLess a b)) | .leq => some (.bool (strLess a b || a == b))
    | .gtr => some (.bool !(strLess a b || a == b)) | .geq => some (.bool !(strLess a b))
    | _ => none
  | .flt k a, .flt k' b => if k = k' then fltAV op k a b else none
  | _, _ => none

def unAV (op : UnOp) (x : AV) : Option AV :=
  match op, x with
  | .not, .bool b => some (.bool !b)
  | .neg, .int k n => some (.int k (k.wrap (0 - n)))
  | .xor, .int k n => some (.int k (k.wrap ((BitVec.ofInt k.bits (if k.signed then -1 else k.max) ^^^ BitVec.ofInt k.bits n).toNat)))
  | _, _ => none

def byteOf : AV → Option UInt8
  | .int .u8 n => if 0 ≤ n ∧ n < 256 then some (UInt8.ofNat n.toNat) else none
  | _ => none

def lenAV : AV → Option Nat
  | .list _ xs => some xs.length
  | .cap0 => some 0
  | .ms _ _ _ len => some len
  | _ => none

def i64 (n : Int) : AV := .int .i64 n

def getI : AV → Option Int
  | .int _ n => some n
  | _ => none

def slBounds (len : Nat) (lo hi : Option AV) : Option (Nat × Nat) :=
  match (match hi with | none => some (len : Int) | some v => getI v) with
  | none => none
  | some h => match (match lo with | none => some (0 : Int) | some v => getI v) with
    | none => none
    | some l => if 0 ≤ l ∧ l ≤ h ∧ h ≤ len then some (l.toNat, h.toNat) else none

def slAV (H : Heap) (sz : Nat) (x : AV) (lo hi mx : Option AV) : Option AV :=
  match mx with
  | some m =>
    -- only x[:0:0] is taken
    match x, lo, hi, m with
    | .list n _, none, some (.int .i64 0), .int .i64 0 => some (if n then .list true [] else .cap0)
    | .cap0, none, some (.int .i64 0), .int .i64 0 => some .cap0
    | _, _, _, _ => none
  | none =>
    match x with
    | .list n xs => if xs.all (fun x => x.cells.length == sz) then (slBounds xs.length lo hi).map fun (l, h) => .list n ((xs.drop l).take (h - l)) else none
    | .cap0 => (slBounds 0 lo hi).map fun _ => .cap0
    | .ms id ver a len => match H.get id with
      | some (.arr _ z _) => if z = sz then (slBounds len lo hi).map fun (l, h) => .ms id ver (a + l) (h - l) else none
      | _ => none
    | _ => none

def ldS (e : Env) (H : Heap) (sz : Nat) (ag : Bool) : Sl → Option AV
  | .lp s off => match e.get s with
    | .lv cs => part sz ag cs off
    | _ => none
  | .v (.imm x) => if x.cells.length = sz then part sz ag x.cells 0 else none
  | .v (.ptr id off) => match H.get id with
    | some (.obj cs) => part sz ag cs off
    | _ => none
  | .v (.ap id ver i off) => match H.get id with
    | some (.arr _ _ xs) => if xs.length = ver then match xs[i]? with
      | some x => part sz ag x.cells off
      | none => none else none
    | _ => none
  | _ => none

def addrS (off sz : Nat) (ag : Bool) : Sl → Option Sl
  | .lp s o => some (.lp s (o + off))
  | .v (.imm x) => (part sz ag x.cells off).map fun y => .v (.imm y)
  | .v (.ptr id o) => some (.v (.ptr id (o + off)))
  | .v (.ap id ver i o) => some (.v (.ap id ver i (o + off)))
  | _ => none

def fillAV (cs : List AV) : List ((Nat × Nat) × AV) → Option (List AV)
  | [] => some cs
  | ((off, sz), v) :: r => if v.cells.length = sz ∧ off + sz ≤ cs.length then fillAV (putAt cs off v.cells) r else none

def mklAV (xs : List AV) : List (Nat × AV) → Option (List AV)
  | [] => some xs
  | (i, v) :: r => match xs[i]? with
    | some o => if v.cells.length = o.cells.length then mklAV (xs.set i v) r else none
    | none => none

def allAV (e : Env) : List Opd → Option (List AV)
  | [] => some []
  | o :: r => match e.av o with
    | none => none
    | some v => (allAV e r).map (v :: ·)

def allParts {κ : Type} (e : Env) : List (κ × Opd) → Option (List (κ × AV))
  | [] => some []
  | (i, o) :: r => match e.av o with
    | none => none
    | some v => (allParts e r).map ((i, v) :: ·)

def optAV (e : Env) : Option Opd → Option (Option AV)
  | none => some none
  | some o => (e.av o).map some

def cntB (c : UInt8) : List UInt8 → Nat
  | [] => 0
  | x :: s => if Nat.beq x.toNat c.toNat then cntB c s + 1 else cntB c s
def idxB (c : UInt8) : Nat → List UInt8 → Int
  | _, [] => -1
  | i, x :: s => if Nat.beq x.toNat c.toNat then (i : Int) else idxB c (i + 1) s

def natAV : Nat → List AV → Option AV
  | 0, [.str s, .int .u8 c] => some (.int .i64 (cntB c.toNat.toUInt8 s))
  | 1, [.str s, .int .u8 c] => some (.int .i64 (idxB c.toNat.toUInt8 0 s))
  | 2, [.flt .f64 b] => some (.int .u64 b)
  | 3, [.int .u64 n] => some (.flt .f64 n.toNat)
  | 4, [.int _ n] => some (.flt .f64 (FloatKind.nearest .f64 n))
  | 5, [.int .i64 a, .int .i64 b, .int .i64 c] => some (.int .i64 (min (min a b) c))
  | 6, [.int .i64 a, .int .i64 b, .int .i64 c] => some (.int .i64 (max (max a b) c))
  | _, _ => none

def AV.same : AV → AV → Bool
  | .bool a, .bool b => a == b
  | .int k a, .int k' b => decide (k = k') && a == b
  | .list true [], .list true [] => true
  | .cap0, .cap0 => true
  | .ms a b c d, .ms a' b' c' d' => a == a' && b == b' && c == c' && d == d'
  | .nilp, .nilp => true
  | .ptr a b, .ptr a' b' => a == a' && b == b'
  | _, _ => false
theorem AV.same_eq {x y : AV} (h : AV.same x y = true) : x = y := by
  unfold AV.same at h
  split at h <;> simp_all

def AV.sames : List AV → List AV → Bool
  | [], [] => true
  | x :: r, y :: t => AV.same x y && AV.sames r t
  | _, _ => false
theorem AV.sames_eq : ∀ {x y : List AV}, AV.sames x y = true → x = y
  | [], [], _ => rfl
  | [], _ :: _, h => by cases h
  | _ :: _, [], h => by cases h
  | x :: r, y :: t, h => by
    simp only [AV.sames, Bool.and_eq_true] at h
    rw [AV.same_eq h.1, AV.sames_eq h.2]

def AV.all2 (f : AV → AV → Bool) : List AV → List AV → Bool
  | [], [] => true
  | x :: r, y :: t => f x y && AV.all2 f r t
  | _, _ => false
theorem AV.all2_eq {f : AV → AV → Bool} (hf : ∀ {x y}, f x y = true → x = y) : ∀ {x y : List AV}, AV.all2 f x y = true → x = y
  | [], [], _ => rfl
  | [], _ :: _, h => by cases h
  | _ :: _, [], h => by cases h
  | x :: r, y :: t, h => by
    simp only [AV.all2, Bool.and_eq_true] at h
    rw [hf h.1, AV.all2_eq hf h.2]
def AV.eqD : Nat → AV → AV → Bool
  | 0, a, b => AV.same a b
  | n + 1, .agg a, .agg b => AV.all2 (AV.eqD n) a b
  | n + 1, .list p a, .list q b => p == q && AV.all2 (AV.eqD n) a b
  | _ + 1, a, b => AV.same a b
theorem AV.eqD_eq : ∀ {n : Nat} {x y : AV}, AV.eqD n x y = true → x = y
  | 0, x, y, h => AV.same_eq h
  | n + 1, x, y, h => by
    unfold AV.eqD at h
    split at h
    · contradiction
    · rename_i hn; cases hn; rw [AV.all2_eq (fun {x y} h => AV.eqD_eq h) h]
    · rename_i hn; cases hn
      simp only [Bool.and_eq_true, beq_iff_eq] at h
      obtain ⟨rfl, h⟩ := h
      rw [AV.all2_eq (fun {x y} h => AV.eqD_eq h) h]
    · exact AV.same_eq h
def AV.same2 : AV → AV → Bool
  | .ap a b c d, .ap a' b' c' d' => a == a' && b == b' && c == c' && d == d'
  | .imm a, .imm b => AV.eqD 3 a b
  | a, b => AV.eqD 3 a b
theorem AV.same2_eq {x y : AV} (h : AV.same2 x y = true) : x = y := by
  unfold AV.same2 at h
  split at h
  · simp_all
  · rw [AV.eqD_eq h]
  · exact AV.eqD_eq h

def keyOK (n : Nat) : AV → Bool
  | .int _ _ => n == 0
  | .agg cs => cs.length == n && decide (0 < n) && cs.all fun c => match c with | .int _ _ => true | _ => false
  | _ => false
def keyEq : AV → AV → Option Bool
  | .int k a, .int k' b => if k = k' then some (a == b) else none
  | .agg xs, .agg ys => if ys.length = xs.length then eqCells (List.replicate xs.length .i) xs ys else none
  | _, _ => none
def mpFind (k : AV) : List (AV × AV) → Nat → Option (Option (Nat × AV))
  | [], _ => some none
  | e :: r, i => match keyEq k e.1 with
    | some true => some (some (i, e.2))
    | some false => mpFind k r (i + 1)
    | none => none

def opv (e : Env) (H : Heap) : AOp → Option Sl
  | .mv x => match e.sl x with
    | .v y => some (.v y)
    | .lp s o => some (.lp s o)
    | _ => none
  | .pick c a b => match e.av c with
    | some (.bool t) => (e.av (if t then a else b)).map .v
    | _ => none
  | .bin op x y => match e.av x, e.av y with
    | some a, some b => (binAV op a b).map .v
    | _, _ => none
  | .eq neg k x y => match e.av x, e.av y with
    | some a, some b => (eqAV k a b).map fun r => .v (.bool (r != neg))
    | _, _ => none
  | .un op x => match e.av x with
    | some a => (unAV op a).map .v
    | _ => none
  | .rmc m x y => match e.av x, e.av y with
    | some a, some (.int k b) => if b = m then (binAV .rem a (.int k b)).map .v else none
    | _, _ => none
  | .chk x y => match e.av x, e.av y with
    | some a, some b => if AV.same2 a b = true then some .no else none
    | _, _ => none
  | .cvi k x => match e.av x with
    | some (.int _ n) => some (.v (.int k (k.wrap n)))
    | _ => none
  | .cvb x => match e.av x with
    | some (.list _ xs) => (xs.mapM byteOf).map fun s => .v (.str s)
    | some .cap0 => some (.v (.str []))
    | some (.ms id ver lo len) => match H.get id with
      | some (.arr _ 1 xs) => if xs.length = ver ∧ lo + len ≤ ver then (((xs.drop lo).take len).mapM byteOf).map fun s => .v (.str s) else none
      | _ => none
    | _ => none
  | .cvs x => match e.av x with
    | some (.str s) => some (.v (.list false (s.map fun b => .int .u8 b.toNat)))
    | _ => none
  | .cvl x => match e.av x with
    | some (.list n xs) => some (.v (.list n xs))
    | _ => none
  | .mkl z n parts => match allParts e parts with
    | some ps => (mklAV (List.replicate n z) ps).map fun xs => .v (.list false xs)
    | none => none
  | .bld z parts => match allParts e parts with
    | some ps => (fillAV z.cells ps).map fun cs => .v (.agg cs)
    | none => none
  | .fa off sz ag a => addrS off sz ag (e.sl a)
  | .ia n sz ag a i => match e.av i with
    | some (.int _ k) => if 0 ≤ k ∧ k < n then addrS (k.toNat * sz) sz ag (e.sl a) else none
    | _ => none
  | .ix sz x i => match e.av x, e.av i with
    | some (.list _ xs), some (.int _ k) => if 0 ≤ k then match xs[k.toNat]? with
        | some y => if y.cells.length = sz then some (.v (.imm y)) else none
        | none => none else none
    | some (.ms id ver lo len), some (.int _ k) => if 0 ≤ k ∧ k < len then match H.get id with
        | some (.arr _ z _) => if z = sz then some (.v (.ap id ver (lo + k.toNat) 0)) else none
        | _ => none else none
    | _, _ => none
  | .ld sz ag a => (ldS e H sz ag (e.sl a)).map .v
  | .ldl sz ag s => match e.get s with
    | .lv cs => (part sz ag cs 0).map .v
    | _ => none
  | .ldi sz ag a => match e.sl a with
    | .v (.imm x) => if x.cells.length = sz then (part sz ag x.cells 0).map .v else none
    | _ => none
  | .ldp sz ag a => match e.sl a with
    | .lp s off => (ldS e H sz ag (.lp s off)).map .v
    | _ => none
  | .ldo sz ag a => match e.sl a with
    | .v (.ptr id off) => if id < H.next then (ldS e H sz ag (.v (.ptr id off))).map .v else none
    | _ => none
  | .ixl sz x i => match e.av x, e.av i with
    | some (.list _ xs), some (.int _ k) => if 0 ≤ k then match xs[k.toNat]? with
        | some y => if y.cells.length = sz then some (.v (.imm y)) else none
        | none => none else none
    | _, _ => none
  | .fld off sz ag x => match e.av x with
    | some (.agg cs) => (part sz ag cs off).map .v
    | _ => none
  | .ixa n sz ag x i => match e.av x, e.av i with
    | some (.agg cs), some (.int _ k) => if 0 ≤ k ∧ k < n then (part sz ag cs (k.toNat * sz)).map .v else none
    | _, _ => none
  | .ixs x i => match e.av x, e.av i with
    | some (.str s), some (.int _ k) => if 0 ≤ k then match s[k.toNat]? with
        | some b => some (.v (.int .u8 b.toNat))
        | none => none else none
    | _, _ => none
  | .len x => match e.av x with
    | some v => (lenAV v).map fun (n : Nat) => .v (i64 n)
    | none => none
  | .lns x => match e.av x with
    | some (.str s) => some (.v (i64 s.length))
    | _ => none
  | .cap x => match e.av x with
    | some .cap0 => some (.v (i64 0))
    | some (.list true []) => some (.v (i64 0))
    | _ => none
  | .sl sz x lo hi mx => match e.av x, optAV e lo, optAV e hi, optAV e mx with
    | some v, some l, some h, some m => (slAV H sz v l h m).map .v
    | _, _, _, _ => none
  | .bim sz x => match e.av x with
    | some v => if v.cells.length = sz then some (.v (.imm v)) else none
    | none => none
  | .sla n a lo hi => match e.av a, optAV e lo, optAV e hi with
    | some (.imm x), some l, some h => if x.cells.length = n then (slBounds n l h).map fun (l, h) => .v (.list false ((x.cells.drop l).take (h - l))) else none
    | _, _, _ => none
  | .ss x lo hi => match e.av x, optAV e lo, optAV e hi with
    | some (.str s), some l, some h => (slBounds s.length l h).map fun (l, h) => .v (.str ((s.drop l).take (h - l)))
    | _, _, _ => none
  | .ext i x => match e.av x with
    | some (.tup vs) => (vs[i]?).map .v
    | _ => none
  | .mkif t x => match e.av x with
    | some v => some (.v (.iface t v))
    | none => none
  | .tas t z ok x => match e.av x with
    | some (.iface t' v) =>
      if t' = t then some (.v (if ok then .tup [v, .bool true] else v))
      else if ok then some (.v (.tup [z, .bool false])) else none
    | some .niliface => if ok then some (.v (.tup [z, .bool false])) else none
    | _ => none
  | .mkfn f cap => match allAV e cap with
    | some vs => some (.v (.fn f vs))
    | none => none
  | .nilc x => match e.sl x with
    | .lp s o => some (.lp s o)
    | .v (.imm y) => some (.v (.imm y))
    | .v (.ptr id o) => some (.v (.ptr id o))
    | .v (.ap id ver i o) => some (.v (.ap id ver i o))
    | .v (.fn f c) => some (.v (.fn f c))
    | _ => none
  | .mnmx mx x y => match e.av x, e.av y with
    | some (.int k a), some (.int k' b) => if k = k' then some (.v (.int k (if mx then max a b else min a b))) else none
    | _, _ => none
  | .nat k args => match allAV e args with
    | some vs => (natAV k vs).map .v
    | none => none
  | .st0 a v => match e.sl a, e.av v with
    | .lp _ _, some (.agg []) => some .un
    | _, _ => none
  | .sts sz a v => match e.sl a, e.av v with
    | .v (.ptr id off), some w => if H.ro ≤ id ∧ w.cells.length = sz then match H.get id with
      | some (.obj cs) => if AV.sames ((cs.drop off).take sz) w.cells then some .un else none
      | _ => none else none
    | _, _ => none
  | .mpl n z ok m k => match e.av m, e.av k with
    | some (.mp id), some kv => if keyOK n kv then match H.get id with
      | some (.map es) => match mpFind kv es 0 with
        | some (some (_, v)) => some (.v (if ok then .tup [v, .bool true] else v))
        | some none => some (.v (if ok then .tup [z, .bool false] else z))
        | none => none
      | _ => none else none
    | _, _ => none
  | .bad => none
  | _ => none

def AOp.base : AOp → AOp
  | .ldi sz ag a => .ld sz ag a
  | .ldp sz ag a => .ld sz ag a
  | .ldo sz ag a => .ld sz ag a
  | .ixl sz x i => .ix sz x i
  | .rmc _ x y => .bin .rem x y
  | op => op

theorem opv_base {e : Env} {H : Heap} {op : AOp} {x : Sl} (h : opv e H op = some x) : opv e H op.base = some x := by
  cases op
  case ldi sz ag a =>
    simp only [opv, AOp.base] at h ⊢
    split at h
    · rename_i y hy; rw [hy]; simp only [ldS]; split at h <;> rename_i hl
      · rw [if_pos hl]; exact h
      · cases h
    · cases h
  case ldp sz ag a =>
    simp only [opv, AOp.base] at h ⊢
    split at h
    · rename_i s off hy; rw [hy]; exact h
    · cases h
  case ldo sz ag a =>
    simp only [opv, AOp.base] at h ⊢
    split at h
    · rename_i id off hy; rw [hy]; split at h
      · exact h
      · cases h
    · cases h
  case ixl sz y i =>
    simp only [opv, AOp.base] at h ⊢
    split at h
    · rename_i hy hi; rw [hy, hi]; exact h
    · cases h
  case rmc m y i =>
    simp only [opv, AOp.base] at h ⊢
    split at h
    · rename_i hy hi
      split at h
      · rw [hy, hi]; exact h
      · cases h
    · cases h
  all_goals exact h

def putElem (x : AV) (off : Nat) (new : List AV) : AV :=
  if x.cells.length = new.length ∧ off = 0 then (match x with | .agg _ => .agg new | _ => new.headD .undef) else .agg (putAt x.cells off new)

def stS (e : Env) (H : Heap) (new : List AV) : Sl → Option (Env × Heap)
  | .lp s off => match e.get s with
    | .lv cs => if off + new.length ≤ cs.length then some ((s, .lv (putAt cs off new)) :: e, H) else none
    | _ => none
  | .v (.ptr id off) => if id < H.ro then none else match H.get id with
    | some (.obj cs) => if off + new.length ≤ cs.length then some (e, H.put id (some (.obj (putAt cs off new)))) else none
    | _ => none
  | .v (.ap id ver i off) => if id < H.ro then none else match H.get id with
    | some (.arr n z xs) => if xs.length = ver then match xs[i]? with
      | some x => if off + new.length ≤ x.cells.length then
          some (e, H.put id (some (.arr n z (xs.set i (putElem x off new)))))
        else none
      | none => none else none
    | _ => none
  | _ => none

def elemsOf (H : Heap) (sz : Nat) : AV → Option (List AV)
  | .list _ xs => if xs.all (fun x => x.cells.length == sz) then some xs else none
  | .cap0 => some []
  | .str s => if sz = 1 then some (s.map fun b => .int .u8 b.toNat) else none
  | .ms id ver lo len => match H.get id with
    | some (.arr _ z xs) => if z = sz ∧ xs.length = ver ∧ lo + len ≤ ver then some ((xs.drop lo).take len) else none
    | _ => none
  | _ => none

def mostLen : Nat := 2 ^ 30

def appS (H : Heap) (sz : Nat) (b x : AV) : Option (AV × Heap) :=
  match elemsOf H sz x with
  | none => none
  | some ys =>
    match b with
    | .ms id ver lo len =>
      if id < H.ro then none else
      match H.get id with
      | some (.arr n z xs) =>
        if z = sz ∧ xs.length = ver ∧ xs.length + ys.length ≤ mostLen then
          if lo = 0 ∧ len = ver then some (.ms id (ver + ys.length) 0 (len + ys.length), H.put id (some (.arr (n && ys.isEmpty) z (xs ++ ys))))
          else if lo + len + ys.length ≤ ver then some (.ms id ver lo (len + ys.length), H.put id (some (.arr n z (xs.take (lo + len) ++ ys ++ xs.drop (lo + len + ys.length)))))
          else none
        else none
      | _ => none
    | .list true [] => if ys.length ≤ mostLen then some (.ms H.next ys.length 0 ys.length, H.new (.arr ys.isEmpty sz ys)) else none
    | .cap0 => if ys.length ≤ mostLen then (if ys.isEmpty then some (.cap0, H) else some (.ms H.next ys.length 0 ys.length, H.new (.arr false sz ys))) else none
    | _ => none

def fzAll (f : Heap → AV → Option (AV × Heap)) : Heap → List AV → Option (List AV × Heap)
  | H, [] => some ([], H)
  | H, x :: r => match f H x with
    | none => none
    | some (y, H1) => match fzAll f H1 r with
      | none => none
      | some (ys, H2) => some (y :: ys, H2)

def fzV : Fz → Heap → AV → Option (AV × Heap)
  | .no, H, x => some (x, H)
  | .sl f, H, .ms id ver lo len => if id < H.ro then none else match H.get id with
    | some (.arr nl _ xs) => if xs.length = ver ∧ lo + len ≤ ver then
        match f with
        | .no => some (.list nl ((xs.drop lo).take len), H.put id none)
        | f => match fzAll (fzV f) (H.put id none) ((xs.drop lo).take len) with
          | some (ys, H') => some (.list nl ys, H')
          | none => none
      else none
    | _ => none
  | .sl _, H, x => some (x, H)
  | .ag i f r, H, .agg cs => match cs[i]? with
    | none => none
    | some c => match fzV f H c with
      | none => none
      | some (c', H1) => if c.one && c'.one then fzV r H1 (.agg (cs.set i c')) else none
  | .ag _ _ _, _, _ => none
  | .pt f, H, .ptr id off => if id < H.ro then none else if off = 0 then match H.get id with
      | some (.obj cs) => match cs with
        | [] => none
        | c :: cs => match fzV f (H.put id none) (.agg (c :: cs)) with
          | some (y, H') => some (.imm y, H')
          | none => none
      | _ => none
    else none
  | .pt _, H, x => some (x, H)

inductive CRes where
  | ret (v : AV) (H : Heap)
  | pan (v : AV) (H : Heap)

mutual
def AV.under (n : Nat) : AV → Bool
  | .list _ xs => AV.underAll n xs
  | .ms id _ _ _ => id < n
  | .imm v => v.under n
  | .ptr id _ => id < n
  | .ap id _ _ _ => id < n
  | .fn _ c => AV.underAll n c
  | .iface _ v => v.under n
  | .agg cs => AV.underAll n cs
  | .tup vs => AV.underAll n vs
  | .mp id => id < n
  | _ => true
def AV.underAll (n : Nat) : List AV → Bool
  | [] => true
  | v :: r => v.under n && AV.underAll n r
end

def heap0 : Heap := ⟨0, 0, fun _ => none⟩

def fzL : List Fz → Heap → List AV → Option (List AV × Heap)
  | [], H, vs => some (vs, H)
  | _ :: _, _, [] => none
  | f :: fs, H, v :: vs => match fzV f H v with
    | none => none
    | some (y, H1) => match fzL fs H1 vs with
      | none => none
      | some (ys, H2) => some (y :: ys, H2)

def fzO (fs : List Fz) (H : Heap) (v : AV) : Option (AV × Heap) := match fs with
  | [] => some (v, H)
  | f :: _ => fzV f H v

def fzT (fs : List Fz) (H : Heap) : AV → Option (AV × Heap)
  | .tup vs => (fzL fs H vs).map fun p => (.tup p.1, p.2)
  | v => fzO fs H v

def clpS (cl : Nat → List AV → Heap → Option CRes) (f : Nat) (fz : List Fz) (vs : List AV) : Option AV :=
  if AV.underAll 0 vs then match cl f vs heap0 with
    | some (.ret v H) => match fzT fz H v with
      | some (v', _) => if v'.under 0 then some v' else none
      | none => none
    | _ => none
  else none

inductive Ex where
  | nrm
  | exit (id : Nat)
  | ret

inductive Out where
  | go (x : Ex) (e : Env) (H : Heap)
  | pan (v : AV) (e : Env) (H : Heap)

def sameLd (e : Env) (H : Heap) (c : Nat × Nat × Bool × Opd) : Bool :=
  match e.sl c.2.2.2, e.get c.1 with
  | .v y, .v x => match ldS e H c.2.1 c.2.2.1 (.v y) with
    | some z => AV.same z x
    | none => false
  | _, _ => false

abbrev Caller := Nat → List AV → Heap → Option CRes

def setDst (d : Option Nat) (x : Sl) (e : Env) : Env := match d with
  | some s => (s, x) :: e
  | none => e

def opS (cl : Caller) (d : Option Nat) (e : Env) (H : Heap) : AOp → Option Out
  | .alv cs => match d with
    | some s => match e.get s with
      | .lv _ => none
      | _ => some (.go .nrm ((s, .lv cs) :: e) H)
    | none => none
  | .blv sz x => match d, e.av x with
    | some s, some v => match e.get s with
      | .lv _ => none
      | _ => if v.cells.length = sz then some (.go .nrm ((s, .lv v.cells) :: e) H) else none
    | _, _ => none
  | .aob cs => some (.go .nrm (setDst d (.v (.ptr H.next 0)) e) (H.new (.obj cs)))
  | .bob sz x => match e.av x with
    | some v => if v.cells.length = sz then some (.go .nrm (setDst d (.v (.ptr H.next 0)) e) (H.new (.obj v.cells))) else none
    | none => none
  | .st sz a v => match e.av v with
    | some w => if w.cells.length = sz then match stS e H w.cells (e.sl a) with
      | some (e', H') => some (.go .nrm e' H')
      | none => none else none
    | none => none
  | .sto sz a v => match e.sl a with
    | .v x => match e.av v with
      | some w => if w.cells.length = sz then match stS e H w.cells (.v x) with
        | some (_, H') => some (.go .nrm (setDst d .un e) H')
        | none => none else none
      | none => none
    | _ => none
  | .app sz b x => match e.av b, e.av x with
    | some u, some v => match appS H sz u v with
      | some (r, H') => some (.go .nrm (setDst d (.v r) e) H')
      | none => none
    | _, _ => none
  | .mkm z n parts => match allParts e parts with
    | some ps => match mklAV (List.replicate n z) ps with
      | some xs => some (.go .nrm (setDst d (.v (.ms H.next xs.length 0 xs.length)) e) (H.new (.arr false z.cells.length xs)))
      | none => none
    | none => none
  | .apz sz z b n => match e.av b, e.av n with
    | some (.list true []), some (.int .i64 k) => if 1 ≤ k ∧ k ≤ mostLen ∧ z.cells.length = sz then
        some (.go .nrm (setDst d (.v (.ms H.next k.toNat 0 k.toNat)) e) (H.new (.arr false sz (List.replicate k.toNat z)))) else none
    | _, _ => none
  | .mks sz z n => match e.av n with
    | some (.int _ k) => if 0 ≤ k ∧ k ≤ mostLen ∧ z.cells.length = sz then
        some (.go .nrm (setDst d (.v (.ms H.next k.toNat 0 k.toNat)) e) (H.new (.arr false sz (List.replicate k.toNat z)))) else none
    | _ => none
  | .mkmp => some (.go .nrm (setDst d (.v (.mp H.next)) e) (H.new (.map [])))
  | .mpu n m k v => match e.av m, e.av k, e.av v with
    | some (.mp id), some kv, some x => if keyOK n kv ∧ H.ro ≤ id then match H.get id with
      | some (.map es) => match mpFind kv es 0 with
        | some (some (i, _)) => some (.go .nrm (setDst d .un e) (H.put id (some (.map (es.set i (kv, x))))))
        | some none => some (.go .nrm (setDst d .un e) (H.put id (some (.map (es ++ [(kv, x)])))))
        | none => none
      | _ => none else none
    | _, _, _ => none
  | .cpy sz x y => match e.av x, e.av y with
    | some (.ms id ver lo len), some v => if id < H.ro then none else match elemsOf H sz v, H.get id with
      | some ys, some (.arr n z xs) => if z = sz ∧ xs.length = ver ∧ lo + len ≤ ver then
          let m := min len ys.length
          some (.go .nrm (setDst d (.v (i64 m)) e) (H.put id (some (.arr n z (xs.take lo ++ ys.take m ++ xs.drop (lo + m)))))) else none
      | _, _ => none
    | _, _ => none
  | .clr sz z x => match e.av x with
    | some (.ms id ver lo len) => if id < H.ro then none else match H.get id with
      | some (.arr n w xs) => if w = sz ∧ z.cells.length = sz ∧ xs.length = ver ∧ lo + len ≤ ver then
          some (.go .nrm (setDst d (.v (.tup [])) e) (H.put id (some (.arr n w (xs.take lo ++ List.replicate len z ++ xs.drop (lo + len)))))) else none
      | _ => none
    | _ => none
  | .thaw sz s => match e.get s with
    | .v (.list true []) => some (.go .nrm ((s, .v (.ms H.next 0 0 0)) :: e) (H.new (.arr true sz [])))
    | _ => none
  | .frz f s => match e.get s with
    | .v x => match fzV f H x with
      | some (y, H') => some (.go .nrm ((s, .v y) :: e) H')
      | none => none
    | .lv cs => match fzV f H (.agg cs) with
      | some (.agg ds, H') => some (.go .nrm ((s, .lv ds) :: e) H')
      | _ => none
    | _ => none
  | .call f args => match allAV e args with
    | some vs => match cl f vs H with
      | some (.ret v H') => some (.go .nrm (setDst d (.v v) e) H')
      | some (.pan v H') => some (.pan v e H')
      | none => none
    | none => none
  | .callc f args cs => match allAV e args with
    | some vs => match cl f vs H with
      | some (.ret v H') => if cs.all (sameLd (setDst d (.v v) e) H') then some (.go .nrm (setDst d (.v v) e) H') else none
      | _ => none
    | none => none
  | .callv f args => match e.av f, allAV e args with
    | some (.fn g cap), some vs => match cl g (vs ++ cap) H with
      | some (.ret v H') => some (.go .nrm (setDst d (.v v) e) H')
      | some (.pan v H') => some (.pan v e H')
      | none => none
    | _, _ => none
  | .callp f fz args => match allAV e args with
    | some vs => match clpS cl f fz vs with
      | some v => some (.go .nrm (setDst d (.v v) e) H)
      | none => none
    | none => none
  | .pan x => match e.av x with
    | some (.iface t v) => some (.pan (.iface t v) e H)
    | _ => none
  | op => match opv e H op with
    | some x => some (.go .nrm (setDst d x e) H)
    | none => none

def wantedS (e : Env) : Option (Nat × Bool) → Option Bool
  | none => some true
  | some (s, w) => match e.get s with
    | .v (.bool b) => some (b == w)
    | .un => some false
    | _ => none

def opsS (cl : Caller) : List AInstr → Env → Heap → Option Out
  | [], e, H => some (.go .nrm e H)
  | i :: r, e, H => match wantedS e i.guard with
    | none => none
    | some false => opsS cl r (setDst i.dst .un e) H
    | some true => match opS cl i.dst e H i.op with
      | some (.go _ e' H') => opsS cl r e' H'
      | x => x

def keepS (l : List Nat) (e : Env) : Env := l.map fun s => (s, match e.get s with
  | .lp _ _ => .no
  | x => x)

def loopS (b : Env → Heap → Option Out) (keep : List Nat) : Nat → Env → Heap → Option Out
  | 0, _, _ => none
  | n + 1, e, H => match b e H with
    | some (.go .nrm e' H') => loopS b keep n (keepS keep e') H'
    | x => x

def backS (e' : Env) : Option Out → Option Out
  | some (.go (.exit _) _ _) => none
  | some (.go _ _ H'') => some (.go .ret e' H'')
  | _ => none

def dfrS (clo : AV → Heap → Option Out) : Option Out → Option Out
  | some (.go (.exit _) _ _) => none
  | some (.go _ e' H') => backS e' (clo .niliface H')
  | some (.pan v e' H') => backS e' (clo v H')
  | none => none

def initEnv : Nat → List AV → Env
  | _, [] => []
  | i, v :: r => (i, .v v) :: initEnv (i + 1) r

def exec (n : Nat) (cl : Caller) : ACode → Env → Heap → Option Out
  | .skip, e, H => some (.go .nrm e H)
  | .ops l, e, H => opsS cl l e H
  | .dops l, e, H => match opsS cl l e H with
    | some (.go _ e' H') => some (.go .nrm e' H')
    | _ => none
  | .seq a b, e, H => match exec n cl a e H with
    | some (.go .nrm e' H') => exec n cl b e' H'
    | x => x
  | .cond c a b, e, H => match e.av c with
    | some (.bool true) => exec n cl a e H
    | some (.bool false) => exec n cl b e H
    | _ => none
  | .block id a, e, H => match exec n cl a e H with
    | some (.go (.exit i) e' H') => if i = id then some (.go .nrm e' H') else some (.go (.exit i) e' H')
    | x => x
  | .loop keep a, e, H => loopS (exec n cl a) keep n (keepS keep e) H
  | .exit id, e, H => some (.go (.exit id) e H)
  | .ret, e, H => some (.go .ret e H)
  | .dfr s f cap rs body clo, e, H => match allAV e cap with
    | none => none
    | some cs => dfrS (fun v H' => exec n cl clo ((rs, .v v) :: initEnv 0 cs) H') (exec n cl body ((s, .v (.fn f cs)) :: e) H)

def resS (e : Env) (H : Heap) : ARes → Option AV
  | .tmp t => match e.get t with
    | .v x => some x
    | _ => none
  | .cell s sz ag => ldS e H sz ag (e.sl (.t s))

def resAll (e : Env) (H : Heap) : List ARes → Option (List AV)
  | [] => some []
  | r :: rs => match resS e H r with
    | none => none
    | some v => (resAll e H rs).map (v :: ·)

def resOf (e : Env) (H : Heap) (l : List ARes) : Option AV :=
  match l with
  | [r] => resS e H r
  | l => (resAll e H l).map .tup

def finS (af : AFn) (H : Heap) : Option Out → Option CRes
  | some (.go (.exit _) _ _) => none
  | some (.go _ e H') => match resOf e H' af.results with
    | none => none
    | some v => if af.pure then (if v.under H.next then some (.ret v H) else none) else some (.ret v { H' with ro := H.ro })
  | some (.pan v _ H') => if af.pure then (if v.under H.next then some (.pan v H) else none) else some (.pan v { H' with ro := H.ro })
  | none => none

def bodyH (af : AFn) (H : Heap) : Heap := if af.pure then { H with ro := H.next } else H

def callN (Φ : Nat → Option AFn) : Nat → Caller
  | 0, _, _, _ => none
  | n + 1, f, args, H => match Φ f with
    | none => none
    | some af => if args.length = af.params then finS af H (exec n (callN Φ n) af.code (initEnv 0 args) (bodyH af H)) else none

end Ey

namespace Ey

def Le (c d : Caller) : Prop := ∀ f a H r, c f a H = some r → d f a H = some r

theorem Le.refl (c : Caller) : Le c c := fun _ _ _ _ h => h

theorem opS_mono {c d : Caller} (h : Le c d) {x : Option Nat} {e : Env} {H : Heap} {op : AOp} {o : Out} (ho : opS c x e H op = some o) :
    opS d x e H op = some o := by
  cases op
  case call f args =>
    simp only [opS] at ho ⊢
    cases hv : allAV e args with
    | none => simp [hv] at ho
    | some vs =>
      simp only [hv] at ho ⊢
      cases hc : c f vs H with
      | none => simp [hc] at ho
      | some r => rw [h _ _ _ _ hc]; rw [hc] at ho; exact ho
  case callc f args cs =>
    simp only [opS] at ho ⊢
    cases hv : allAV e args with
    | none => simp [hv] at ho
    | some vs =>
      simp only [hv] at ho ⊢
      cases hc : c f vs H with
      | none => simp [hc] at ho
      | some r => rw [h _ _ _ _ hc]; rw [hc] at ho; exact ho
  case callp f fz args =>
    simp only [opS, clpS] at ho ⊢
    cases hv : allAV e args with
    | none => simp [hv] at ho
    | some vs =>
      simp only [hv] at ho ⊢
      by_cases hu : AV.underAll 0 vs = true
      · rw [if_pos hu] at ho ⊢
        cases hc : c f vs heap0 with
        | none => simp [hc] at ho
        | some r => rw [h _ _ _ _ hc]; rw [hc] at ho; exact ho
      · rw [if_neg hu] at ho; cases ho
  case callv f args =>
    simp only [opS] at ho ⊢
    split at ho
    · rename_i g cap vs h1 h2
      cases hc : c g (vs ++ cap) H with
      | none => simp [hc] at ho
      | some r => rw [h _ _ _ _ hc]; rw [hc] at ho; exact ho
    · simp at ho
  all_goals exact ho

theorem opsS_mono {c d : Caller} (h : Le c d) : ∀ {l : List AInstr} {e : Env} {H : Heap} {o : Out}, opsS c l e H = some o → opsS d l e H = some o
  | [], _, _, _, ho => ho
  | i :: r, e, H, o, ho => by
    simp only [opsS] at ho ⊢
    split at ho
    · simp at ho
    · exact opsS_mono h ho
    · cases hs : opS c i.dst e H i.op with
      | none => simp [hs] at ho
      | some x =>
        rw [opS_mono h hs]; rw [hs] at ho
        cases x with
        | go _ e' H' => exact opsS_mono h ho
        | pan v e' H' => exact ho

theorem loopS_mono {b b' : Env → Heap → Option Out} (h : ∀ e H o, b e H = some o → b' e H = some o) (k : List Nat) :
    ∀ {n m : Nat} {e : Env} {H : Heap} {o : Out}, n ≤ m → loopS b k n e H = some o → loopS b' k m e H = some o
  | 0, _, _, _, _, _, ho => by simp [loopS] at ho
  | n + 1, 0, _, _, _, hn, _ => by omega
  | n + 1, m + 1, e, H, o, hn, ho => by
    simp only [loopS] at ho ⊢
    cases hb : b e H with
    | none => simp [hb] at ho
    | some x =>
      rw [h _ _ _ hb]; rw [hb] at ho
      rcases x with ⟨x, e', H'⟩ | ⟨v, e', H'⟩
      · cases x
        · exact loopS_mono h k (by omega) ho
        · exact ho
        · exact ho
      · exact ho

theorem dfrS_mono {f f' : AV → Heap → Option Out} (h : ∀ v H o, f v H = some o → f' v H = some o) {x : Option Out} {o : Out} (ho : dfrS f x = some o) : dfrS f' x = some o := by
  have back : ∀ {v e' H' o}, backS e' (f v H') = some o → backS e' (f' v H') = some o := fun {v e' H' o} hb => by
    cases hx : f v H' with
    | none => rw [hx] at hb; cases hb
    | some y => rw [h _ _ _ hx]; rw [hx] at hb; exact hb
  rcases x with _ | ⟨q, e', H'⟩ | ⟨v, e', H'⟩
  · cases ho
  · cases q
    · exact back ho
    · cases ho
    · exact back ho
  · exact back ho

theorem exec_mono {c d : Caller} (h : Le c d) {n m : Nat} (hn : n ≤ m) : ∀ {x : ACode} {e : Env} {H : Heap} {o : Out},
    exec n c x e H = some o → exec m d x e H = some o
  | .skip, _, _, _, ho => ho
  | .ops l, _, _, _, ho => opsS_mono h ho
  | .dops l, e, H, o, ho => by
    simp only [exec] at ho ⊢
    cases ha : opsS c l e H with
    | none => simp [ha] at ho
    | some x => rw [opsS_mono h ha]; rw [ha] at ho; exact ho
  | .seq a b, e, H, o, ho => by
    simp only [exec] at ho ⊢
    cases ha : exec n c a e H with
    | none => simp [ha] at ho
    | some x =>
      rw [exec_mono h hn ha]; rw [ha] at ho
      rcases x with ⟨x, e', H'⟩ | ⟨v, e', H'⟩
      · cases x
        · exact exec_mono h hn ho
        · exact ho
        · exact ho
      · exact ho
  | .cond g a b, e, H, o, ho => by
    simp only [exec] at ho ⊢
    split at ho
    · exact exec_mono h hn ho
    · exact exec_mono h hn ho
    · simp at ho
  | .block id a, e, H, o, ho => by
    simp only [exec] at ho ⊢
    cases ha : exec n c a e H with
    | none => simp [ha] at ho
    | some x => rw [exec_mono h hn ha]; rw [ha] at ho; exact ho
  | .loop k a, e, H, o, ho => by
    simp only [exec] at ho ⊢
    exact loopS_mono (fun _ _ _ hb => exec_mono h hn hb) k hn ho
  | .exit _, _, _, _, ho => ho
  | .ret, _, _, _, ho => ho
  | .dfr s f cap rs body clo, e, H, o, ho => by
    simp only [exec] at ho ⊢
    cases hv : allAV e cap with
    | none => rw [hv] at ho; cases ho
    | some cs =>
      rw [hv] at ho
      simp only at ho ⊢
      cases hb : exec n c body ((s, .v (.fn f cs)) :: e) H with
      | none => rw [hb] at ho; cases ho
      | some x =>
        rw [exec_mono h hn hb]
        rw [hb] at ho
        exact dfrS_mono (fun v H' o' h' => exec_mono h hn h') ho

theorem callN_mono (Φ : Nat → Option AFn) : ∀ {n m : Nat}, n ≤ m → Le (callN Φ n) (callN Φ m)
  | 0, _, _ => fun _ _ _ _ h => by simp [callN] at h
  | n + 1, 0, h => by omega
  | n + 1, m + 1, h => fun f a H r hr => by
    have hn : n ≤ m := by omega
    simp only [callN] at hr ⊢
    cases hf : Φ f with
    | none => simp [hf] at hr
    | some af =>
      simp only [hf] at hr ⊢
      split at hr
      · rename_i hl
        rw [if_pos hl]
        cases he : exec n (callN Φ n) af.code (initEnv 0 a) (bodyH af H) with
        | none => simp [he, finS] at hr
        | some o => rw [exec_mono (callN_mono Φ hn) hn he]; rw [he] at hr; exact hr
      · simp at hr

open Classical in
noncomputable def evC (Φ : Nat → Option AFn) : Caller := fun f a H =>
  if h : ∃ r, ∃ n, callN Φ n f a H = some r then some h.choose else none

theorem evC_iff {Φ : Nat → Option AFn} {f : Nat} {a : List AV} {H : Heap} {r : CRes} : evC Φ f a H = some r ↔ ∃ n, callN Φ n f a H = some r := by
  unfold evC
  constructor
  · intro h
    split at h
    · rename_i hx
      obtain ⟨n, hn⟩ := hx.choose_spec
      simp only [Option.some.injEq] at h
      exact ⟨n, h ▸ hn⟩
    · simp at h
  · rintro ⟨n, hn⟩
    have hx : ∃ r, ∃ n, callN Φ n f a H = some r := ⟨r, n, hn⟩
    rw [dif_pos hx]
    obtain ⟨m, hm⟩ := hx.choose_spec
    have h1 := callN_mono Φ (Nat.le_max_left n m) _ _ _ _ hn
    have h2 := callN_mono Φ (Nat.le_max_right n m) _ _ _ _ hm
    exact (h2.symm.trans h1)

open Classical in
noncomputable def evX (Φ : Nat → Option AFn) (c : ACode) (e : Env) (H : Heap) : Option Out :=
  if h : ∃ o, ∃ n, exec n (callN Φ n) c e H = some o then some h.choose else none

theorem evX_iff {Φ : Nat → Option AFn} {c : ACode} {e : Env} {H : Heap} {o : Out} : evX Φ c e H = some o ↔ ∃ n, exec n (callN Φ n) c e H = some o := by
  unfold evX
  constructor
  · intro h
    split at h
    · rename_i hx
      obtain ⟨n, hn⟩ := hx.choose_spec
      simp only [Option.some.injEq] at h
      exact ⟨n, h ▸ hn⟩
    · simp at h
  · rintro ⟨n, hn⟩
    have hx : ∃ o, ∃ n, exec n (callN Φ n) c e H = some o := ⟨o, n, hn⟩
    rw [dif_pos hx]
    obtain ⟨m, hm⟩ := hx.choose_spec
    have h1 := exec_mono (callN_mono Φ (Nat.le_max_left n m)) (Nat.le_max_left n m) hn
    have h2 := exec_mono (callN_mono Φ (Nat.le_max_right n m)) (Nat.le_max_right n m) hm
    exact (h2.symm.trans h1)

theorem callN_le_evC (Φ : Nat → Option AFn) (n : Nat) : Le (callN Φ n) (evC Φ) := fun _ _ _ _ h => evC_iff.2 ⟨n, h⟩

theorem ext_some {α : Type} {x y : Option α} (h : ∀ a, x = some a ↔ y = some a) : x = y := by
  cases x with
  | none => cases y with
    | none => rfl
    | some b => exact absurd ((h b).2 rfl) (by simp)
  | some a => exact ((h a).1 rfl).symm

section
variable {Φ : Nat → Option AFn}

theorem opS_fin {x : Option Nat} {e : Env} {H : Heap} {op : AOp} {o : Out} (ho : opS (evC Φ) x e H op = some o) : ∃ n, opS (callN Φ n) x e H op = some o := by
  cases op
  case call f args =>
    simp only [opS] at ho ⊢
    cases hv : allAV e args with
    | none => simp [hv] at ho
    | some vs =>
      simp only [hv] at ho ⊢
      cases hc : evC Φ f vs H with
      | none => simp [hc] at ho
      | some r =>
        obtain ⟨n, hn⟩ := evC_iff.1 hc
        exact ⟨n, by rw [hn]; rw [hc] at ho; exact ho⟩
  case callc f args cs =>
    simp only [opS] at ho ⊢
    cases hv : allAV e args with
    | none => simp [hv] at ho
    | some vs =>
      simp only [hv] at ho ⊢
      cases hc : evC Φ f vs H with
      | none => simp [hc] at ho
      | some r =>
        obtain ⟨n, hn⟩ := evC_iff.1 hc
        exact ⟨n, by rw [hn]; rw [hc] at ho; exact ho⟩
  case callp f fz args =>
    simp only [opS, clpS] at ho ⊢
    cases hv : allAV e args with
    | none => simp [hv] at ho
    | some vs =>
      simp only [hv] at ho ⊢
      by_cases hu : AV.underAll 0 vs = true
      · rw [if_pos hu] at ho
        cases hc : evC Φ f vs heap0 with
        | none => simp [hc] at ho
        | some r =>
          obtain ⟨n, hn⟩ := evC_iff.1 hc
          exact ⟨n, by rw [if_pos hu, hn]; rw [hc] at ho; exact ho⟩
      · rw [if_neg hu] at ho; cases ho
  case callv f args =>
    simp only [opS] at ho ⊢
    split at ho
    · rename_i g cap vs h1 h2
      cases hc : evC Φ g (vs ++ cap) H with
      | none => simp [hc] at ho
      | some r =>
        obtain ⟨n, hn⟩ := evC_iff.1 hc
        exact ⟨n, by rw [hn]; rw [hc] at ho; exact ho⟩
    · simp at ho
  all_goals exact ⟨0, ho⟩

theorem opsS_fin : ∀ {l : List AInstr} {e : Env} {H : Heap} {o : Out}, opsS (evC Φ) l e H = some o → ∃ n, opsS (callN Φ n) l e H = some o
  | [], _, _, _, ho => ⟨0, ho⟩
  | i :: r, e, H, o, ho => by
    simp only [opsS] at ho ⊢
    cases hw : wantedS e i.guard with
    | none => simp [hw] at ho
    | some b =>
      cases b
      · simp only [hw] at ho ⊢
        exact opsS_fin ho
      · simp only [hw] at ho ⊢
        cases hs : opS (evC Φ) i.dst e H i.op with
        | none => simp [hs] at ho
        | some x =>
          obtain ⟨n, hn⟩ := opS_fin hs
          rw [hs] at ho
          cases x with
          | go q e' H' =>
            obtain ⟨m, hm⟩ := opsS_fin ho
            refine ⟨max n m, ?_⟩
            rw [opS_mono (callN_mono Φ (Nat.le_max_left n m)) hn]
            exact opsS_mono (callN_mono Φ (Nat.le_max_right n m)) hm
          | pan v e' H' => exact ⟨n, by rw [hn]; exact ho⟩

theorem evX_ops (l : List AInstr) (e : Env) (H : Heap) : evX Φ (.ops l) e H = opsS (evC Φ) l e H :=
  ext_some fun _ => evX_iff.trans ⟨fun ⟨n, hn⟩ => opsS_mono (callN_le_evC Φ n) hn, fun h => opsS_fin h⟩

theorem evX_dops (l : List AInstr) (e : Env) (H : Heap) : evX Φ (.dops l) e H = match opsS (evC Φ) l e H with
    | some (.go _ e' H') => some (.go .nrm e' H')
    | _ => none := by
  refine ext_some fun o => evX_iff.trans ⟨fun ⟨n, hn⟩ => ?_, fun h => ?_⟩
  · simp only [exec] at hn
    cases ha : opsS (callN Φ n) l e H with
    | none => simp [ha] at hn
    | some x => rw [opsS_mono (callN_le_evC Φ n) ha]; rw [ha] at hn; exact hn
  · cases ha : opsS (evC Φ) l e H with
    | none => simp [ha] at h
    | some x =>
      obtain ⟨n, hn⟩ := opsS_fin ha
      exact ⟨n, by simp only [exec]; rw [hn]; rw [ha] at h; exact h⟩

theorem evX_skip (e : Env) (H : Heap) : evX Φ .skip e H = some (.go .nrm e H) :=
  ext_some fun _ => evX_iff.trans ⟨fun ⟨_, hn⟩ => hn, fun h => ⟨0, h⟩⟩
theorem evX_exit (i : Nat) (e : Env) (H : Heap) : evX Φ (.exit i) e H = some (.go (.exit i) e H) :=
  ext_some fun _ => evX_iff.trans ⟨fun ⟨_, hn⟩ => hn, fun h => ⟨0, h⟩⟩
theorem evX_ret (e : Env) (H : Heap) : evX Φ .ret e H = some (.go .ret e H) :=
  ext_some fun _ => evX_iff.trans ⟨fun ⟨_, hn⟩ => hn, fun h => ⟨0, h⟩⟩

theorem exec_max_left {c : ACode} {e : Env} {H : Heap} {o : Out} {n : Nat} (m : Nat) (h : exec n (callN Φ n) c e H = some o) :
    exec (max n m) (callN Φ (max n m)) c e H = some o := exec_mono (callN_mono Φ (Nat.le_max_left n m)) (Nat.le_max_left n m) h
theorem exec_max_right {c : ACode} {e : Env} {H : Heap} {o : Out} {m : Nat} (n : Nat) (h : exec m (callN Φ m) c e H = some o) :
    exec (max n m) (callN Φ (max n m)) c e H = some o := exec_mono (callN_mono Φ (Nat.le_max_right n m)) (Nat.le_max_right n m) h

theorem evX_seq (a b : ACode) (e : Env) (H : Heap) : evX Φ (.seq a b) e H = match evX Φ a e H with
    | some (.go .nrm e' H') => evX Φ b e' H'
    | x => x := by
  refine ext_some fun o => evX_iff.trans ⟨fun ⟨n, hn⟩ => ?_, fun h => ?_⟩
  · simp only [exec] at hn
    cases ha : exec n (callN Φ n) a e H with
    | none => simp [ha] at hn
    | some x =>
      rw [evX_iff.2 ⟨n, ha⟩]; rw [ha] at hn
      rcases x with ⟨x, e', H'⟩ | ⟨v, e', H'⟩
      · cases x
        · exact evX_iff.2 ⟨n, hn⟩
        · exact hn
        · exact hn
      · exact hn
  · cases ha : evX Φ a e H with
    | none => simp [ha] at h
    | some x =>
      obtain ⟨n, hn⟩ := evX_iff.1 ha
      rw [ha] at h
      simp only [exec]
      rcases x with ⟨x, e', H'⟩ | ⟨v, e', H'⟩
      · cases x
        · obtain ⟨m, hm⟩ := evX_iff.1 h
          exact ⟨max n m, by rw [exec_max_left m hn]; exact exec_max_right n hm⟩
        · exact ⟨n, by rw [hn]; exact h⟩
        · exact ⟨n, by rw [hn]; exact h⟩
      · exact ⟨n, by rw [hn]; exact h⟩

theorem evX_dfr (s f : Nat) (cap : List Opd) (rs : Nat) (body clo : ACode) (e : Env) (H : Heap) : evX Φ (.dfr s f cap rs body clo) e H = match allAV e cap with
    | none => none
    | some cs => dfrS (fun v H' => evX Φ clo ((rs, .v v) :: initEnv 0 cs) H') (evX Φ body ((s, .v (.fn f cs)) :: e) H) := by
  refine ext_some fun o => evX_iff.trans ⟨fun ⟨n, hn⟩ => ?_, fun h => ?_⟩
  · simp only [exec] at hn
    cases hv : allAV e cap with
    | none => rw [hv] at hn; cases hn
    | some cs =>
      rw [hv] at hn
      simp only at hn ⊢
      cases hb : exec n (callN Φ n) body ((s, .v (.fn f cs)) :: e) H with
      | none => rw [hb] at hn; cases hn
      | some x =>
        rw [evX_iff.2 ⟨n, hb⟩]
        rw [hb] at hn
        exact dfrS_mono (fun v H' o' h' => evX_iff.2 ⟨n, h'⟩) hn
  · simp only [exec]
    cases hv : allAV e cap with
    | none => rw [hv] at h; cases h
    | some cs =>
      rw [hv] at h
      simp only at h ⊢
      cases hb : evX Φ body ((s, .v (.fn f cs)) :: e) H with
      | none => rw [hb] at h; cases h
      | some x =>
        rw [hb] at h
        obtain ⟨n, hn⟩ := evX_iff.1 hb
        have back : ∀ {v e' H' o}, backS e' (evX Φ clo ((rs, .v v) :: initEnv 0 cs) H') = some o → ∃ m, backS e' (exec m (callN Φ m) clo ((rs, .v v) :: initEnv 0 cs) H') = some o := fun {v e' H' o} hx => by
          cases hc : evX Φ clo ((rs, .v v) :: initEnv 0 cs) H' with
          | none => rw [hc] at hx; cases hx
          | some y =>
            obtain ⟨m, hm⟩ := evX_iff.1 hc
            exact ⟨m, by rw [hm]; rw [hc] at hx; exact hx⟩
        have lift : ∀ {v e' H' o m}, backS e' (exec m (callN Φ m) clo ((rs, .v v) :: initEnv 0 cs) H') = some o → backS e' (exec (max n m) (callN Φ (max n m)) clo ((rs, .v v) :: initEnv 0 cs) H') = some o := fun {v e' H' o m} hx => by
          cases hc : exec m (callN Φ m) clo ((rs, .v v) :: initEnv 0 cs) H' with
          | none => rw [hc] at hx; cases hx
          | some y => rw [exec_max_right n hc]; rw [hc] at hx; exact hx
        rcases x with ⟨q, e', H'⟩ | ⟨v, e', H'⟩
        · cases q
          · obtain ⟨m, hm⟩ := back h
            exact ⟨max n m, by rw [exec_max_left m hn]; exact lift hm⟩
          · cases h
          · obtain ⟨m, hm⟩ := back h
            exact ⟨max n m, by rw [exec_max_left m hn]; exact lift hm⟩
        · obtain ⟨m, hm⟩ := back h
          exact ⟨max n m, by rw [exec_max_left m hn]; exact lift hm⟩

theorem evX_cond (c : Opd) (a b : ACode) (e : Env) (H : Heap) : evX Φ (.cond c a b) e H = match e.av c with
    | some (.bool true) => evX Φ a e H
    | some (.bool false) => evX Φ b e H
    | _ => none := by
  refine ext_some fun o => evX_iff.trans ⟨fun ⟨n, hn⟩ => ?_, fun h => ?_⟩
  · simp only [exec] at hn
    split at hn
    · rename_i hc; (try rw [hc]); exact evX_iff.2 ⟨n, hn⟩
    · rename_i hc; (try rw [hc]); exact evX_iff.2 ⟨n, hn⟩
    · simp at hn
  · simp only [exec]
    split at h
    · rename_i hc; (try rw [hc]); exact evX_iff.1 h
    · rename_i hc; (try rw [hc]); exact evX_iff.1 h
    · simp at h

theorem evX_block (i : Nat) (a : ACode) (e : Env) (H : Heap) : evX Φ (.block i a) e H = match evX Φ a e H with
    | some (.go (.exit j) e' H') => if j = i then some (.go .nrm e' H') else some (.go (.exit j) e' H')
    | x => x := by
  refine ext_some fun o => evX_iff.trans ⟨fun ⟨n, hn⟩ => ?_, fun h => ?_⟩
  · simp only [exec] at hn
    cases ha : exec n (callN Φ n) a e H with
    | none => simp [ha] at hn
    | some x => rw [evX_iff.2 ⟨n, ha⟩]; rw [ha] at hn; exact hn
  · cases ha : evX Φ a e H with
    | none => simp [ha] at h
    | some x =>
      obtain ⟨n, hn⟩ := evX_iff.1 ha
      rw [ha] at h
      exact ⟨n, by simp only [exec]; rw [hn]; exact h⟩

theorem evX_loop (k : List Nat) (a : ACode) (e : Env) (H : Heap) : evX Φ (.loop k a) e H = match evX Φ a (keepS k e) H with
    | some (.go .nrm e' H') => evX Φ (.loop k a) e' H'
    | x => x := by
  refine ext_some fun o => evX_iff.trans ⟨fun ⟨n, hn⟩ => ?_, fun h => ?_⟩
  · simp only [exec] at hn
    cases n with
    | zero => simp [loopS] at hn
    | succ n =>
      simp only [loopS] at hn
      cases ha : exec (n + 1) (callN Φ (n + 1)) a (keepS k e) H with
      | none => simp [ha] at hn
      | some x =>
        rw [evX_iff.2 ⟨n + 1, ha⟩]; rw [ha] at hn
        rcases x with ⟨x, e', H'⟩ | ⟨v, e', H'⟩
        · cases x
          · refine evX_iff.2 ⟨n + 1, ?_⟩
            simp only [exec]
            exact loopS_mono (fun _ _ _ h => h) k (Nat.le_succ n) hn
          · exact hn
          · exact hn
        · exact hn
  · cases ha : evX Φ a (keepS k e) H with
    | none => simp [ha] at h
    | some x =>
      obtain ⟨n, hn⟩ := evX_iff.1 ha
      rw [ha] at h
      rcases x with ⟨x, e', H'⟩ | ⟨v, e', H'⟩
      · cases x
        · obtain ⟨m, hm⟩ := evX_iff.1 h
          simp only [exec] at hm ⊢
          refine ⟨max n m + 1, ?_⟩
          simp only [loopS]
          rw [exec_mono (callN_mono Φ (Nat.le_succ_of_le (Nat.le_max_left n m))) (Nat.le_succ_of_le (Nat.le_max_left n m)) hn]
          exact loopS_mono (fun _ _ _ hb => exec_mono (callN_mono Φ (Nat.le_succ_of_le (Nat.le_max_right n m))) (Nat.le_succ_of_le (Nat.le_max_right n m)) hb) k (Nat.le_max_right n m) hm
        · exact ⟨n + 1, by simp only [exec, loopS]; rw [exec_mono (callN_mono Φ (Nat.le_succ n)) (Nat.le_succ n) hn]; exact h⟩
        · exact ⟨n + 1, by simp only [exec, loopS]; rw [exec_mono (callN_mono Φ (Nat.le_succ n)) (Nat.le_succ n) hn]; exact h⟩
      · exact ⟨n + 1, by simp only [exec, loopS]; rw [exec_mono (callN_mono Φ (Nat.le_succ n)) (Nat.le_succ n) hn]; exact h⟩

theorem evC_eq {f : Nat} {af : AFn} (hf : Φ f = some af) {a : List AV} (ha : a.length = af.params) (H : Heap) :
    evC Φ f a H = finS af H (evX Φ af.code (initEnv 0 a) (bodyH af H)) := by
  refine ext_some fun r => evC_iff.trans ⟨fun ⟨n, hn⟩ => ?_, fun h => ?_⟩
  · cases n with
    | zero => simp [callN] at hn
    | succ n =>
      simp only [callN, hf, if_pos ha] at hn
      cases he : exec n (callN Φ n) af.code (initEnv 0 a) (bodyH af H) with
      | none => simp [he, finS] at hn
      | some o => rw [evX_iff.2 ⟨n, he⟩]; rw [he] at hn; exact hn
  · cases he : evX Φ af.code (initEnv 0 a) (bodyH af H) with
    | none => simp [he, finS] at h
    | some o =>
      obtain ⟨n, hn⟩ := evX_iff.1 he
      refine ⟨n + 1, ?_⟩
      simp only [callN, hf, if_pos ha]
      rw [hn]; rw [he] at h; exact h

theorem evX_rounds {k : List Nat} {a : ACode} (E : Nat → Env) (M : Nat → Heap) (n : Nat) {o : Out}
    (e : Env) (h0 : keepS k e = E 0) (hr : ∀ i, i < n → ∃ e', evX Φ a (E i) (M i) = some (.go .nrm e' (M (i + 1))) ∧ keepS k e' = E (i + 1))
    (hl : evX Φ a (E n) (M n) = some o) (hx : ∀ e H, o ≠ .go .nrm e H) : evX Φ (.loop k a) e (M 0) = some o := by
  have key : ∀ d i e, i + d = n → keepS k e = E i → evX Φ (.loop k a) e (M i) = some o := by
    intro d
    induction d with
    | zero =>
      intro i e hi he
      obtain rfl : i = n := by omega
      rw [evX_loop, he, hl]
      rcases o with ⟨x, e', H'⟩ | ⟨v, e', H'⟩
      · cases x
        · exact absurd rfl (hx e' H')
        · rfl
        · rfl
      · rfl
    | succ d ih =>
      intro i e hi he
      obtain ⟨e', h1, h2⟩ := hr i (by omega)
      rw [evX_loop, he, h1]
      exact ih (i + 1) e' (by omega) h2
  exact key n 0 e (by omega) h0
end
end Ey

namespace Ey
open Go Go.RowKit

structure Cx where
  P : Program
  fm : Nat → Option FuncId
  tm : Nat → Option TypeId
  inj : ∀ t t' i, tm t = some i → tm t' = some i → t = t'
  /-- what package variables hold that are never written, cell by cell -/
  gl : Nat → Nat → Option Value := fun _ _ => none

structure Ph where
  base : Option (Nat × Nat)
  cap : Nat
  sz : Nat

structure Gh where
  G : Nat → Nat → Option Value
  ob : Nat → Option (Nat × Nat)
  ar : Nat → Nat → Option Ph

structure Gh.Le (g g' : Gh) : Prop where
  G : ∀ b o v, g.G b o = some v → g'.G b o = some v
  ob : ∀ id p, g.ob id = some p → g'.ob id = some p
  ar : ∀ id n p, g.ar id n = some p → g'.ar id n = some p

theorem Gh.Le.refl (g : Gh) : g.Le g := ⟨fun _ _ _ h => h, fun _ _ h => h, fun _ _ _ h => h⟩
theorem Gh.Le.trans {a b c : Gh} (h : a.Le b) (k : b.Le c) : a.Le c :=
  ⟨fun _ _ _ x => k.G _ _ _ (h.G _ _ _ x), fun _ _ x => k.ob _ _ (h.ob _ _ x), fun _ _ _ x => k.ar _ _ _ (h.ar _ _ _ x)⟩

inductive VR (C : Cx) (g : Gh) : AV → Value → Prop
  | bool (b) : VR C g (.bool b) (.bool b)
  | int (k n) : VR C g (.int k n) (.int k n)
  | str (s : ByteArray) : VR C g (.str s.data.toList) (.string s)
  | flt (k b) : VR C g (.flt k b) (.float k b)
  | nil : VR C g (.list true []) (.slice none 0 0)
  | list (xs : List AV) (b o cap sz : Nat) (f : Nat → Nat → Value) (hc : xs.length ≤ cap)
      (hsz : ∀ (i : Nat) (x : AV), xs[i]? = some x → x.cells.length = sz ∧ ∀ c ∈ x.cells, c.one = true)
      (hne : ∀ (i : Nat) (x : AV), xs[i]? = some x → x.cells ≠ [])
      (hG : ∀ i j, i < xs.length → j < sz → g.G b (o + i * sz + j) = some (f i j))
      (hv : ∀ (i j : Nat) (x y : AV), xs[i]? = some x → x.cells[j]? = some y → VR C g y (f i j)) : VR C g (.list false xs) (.slice (some ⟨b, o, none⟩) xs.length cap)
  | cap0 (a : Addr) : VR C g .cap0 (.slice (some a) 0 0)
  | msNil (id sz : Nat) (h : g.ar id 0 = some ⟨none, 0, sz⟩) : VR C g (.ms id 0 0 0) (.slice none 0 0)
  | ms (id ver lo len b o cap sz : Nat) (a : Addr) (h : g.ar id ver = some ⟨some (b, o), cap, sz⟩) (hl : lo + len ≤ cap)
      (ha : a.spot = none ∧ (lo = cap ∨ a = ⟨b, o + lo * sz, none⟩)) : VR C g (.ms id ver lo len) (.slice (some a) len (cap - lo))
  | imm (v : AV) (b o : Nat) (f : Nat → Value) (h1 : ∀ c ∈ v.cells, c.one = true) (hne : v.cells ≠ []) (hG : ∀ j, j < v.cells.length → g.G b (o + j) = some (f j))
      (hv : ∀ (j : Nat) (y : AV), v.cells[j]? = some y → VR C g y (f j)) : VR C g (.imm v) (.pointer (some ⟨b, o, none⟩))
  | nilp : VR C g .nilp (.pointer none)
  | ptr (id off b o : Nat) (h : g.ob id = some (b, o)) : VR C g (.ptr id off) (.pointer (some ⟨b, o + off, none⟩))
  | ap (id ver i off b o cap sz : Nat) (h : g.ar id ver = some ⟨some (b, o), cap, sz⟩) : VR C g (.ap id ver i off) (.pointer (some ⟨b, o + i * sz + off, none⟩))
  | fn (f : Nat) (cap : List AV) (fid : FuncId) (vs : Array Value) (h : C.fm f = some fid) (hl : cap.length = vs.size)
      (hv : ∀ (i : Nat) (x : AV) (y : Value), cap[i]? = some x → vs[i]? = some y → VR C g x y) : VR C g (.fn f cap) (.func (.func fid) #[] vs)
  | nilfn : VR C g .nilfn .nilFunc
  | iface (t : Nat) (v : AV) (tid : TypeId) (w : Value) (h : C.tm t = some tid) (hv : VR C g v w) : VR C g (.iface t v) (.iface tid w)
  | niliface : VR C g .niliface .nilIface
  | agg (cs : List AV) (ws : Array Value) (hl : cs.length = ws.size) (h1 : ∀ c ∈ cs, c.one = true)
      (hv : ∀ (i : Nat) (x : AV) (y : Value), cs[i]? = some x → ws[i]? = some y → VR C g x y) : VR C g (.agg cs) (.agg ws)
  | tup (cs : List AV) (ws : Array Value) (hl : cs.length = ws.size)
      (hv : ∀ (i : Nat) (x : AV) (y : Value), cs[i]? = some x → ws[i]? = some y → VR C g x y) : VR C g (.tup cs) (.tuple ws)
  | nilmap : VR C g .nilmap (.map none)
  | mp (id b : Nat) (h : g.ob id = some (b, 0)) : VR C g (.mp id) (.map (some b))

theorem VR.mono {C : Cx} {g g' : Gh} (h : g.Le g') {x : AV} {v : Value} (r : VR C g x v) : VR C g' x v := by
  induction r with
  | bool b => exact .bool b
  | int k n => exact .int k n
  | str s => exact .str s
  | flt k b => exact .flt k b
  | nil => exact .nil
  | list xs b o cap sz f hc hsz hne hG _ ih => exact .list xs b o cap sz f hc hsz hne (fun i j hi hj => h.G _ _ _ (hG i j hi hj)) ih
  | cap0 a => exact .cap0 a
  | msNil id sz hh => exact .msNil id sz (h.ar _ _ _ hh)
  | ms id ver lo len b o cap sz a hh hl ha => exact .ms id ver lo len b o cap sz a (h.ar _ _ _ hh) hl ha
  | imm v b o f h1 hne hG _ ih => exact .imm v b o f h1 hne (fun j hj => h.G _ _ _ (hG j hj)) ih
  | nilp => exact .nilp
  | ptr id off b o hh => exact .ptr id off b o (h.ob _ _ hh)
  | ap id ver i off b o cap sz hh => exact .ap id ver i off b o cap sz (h.ar _ _ _ hh)
  | fn f cap fid vs hh hl _ ih => exact .fn f cap fid vs hh hl ih
  | nilfn => exact .nilfn
  | iface t v tid w hh _ ih => exact .iface t v tid w hh ih
  | niliface => exact .niliface
  | agg cs ws hl h1 _ ih => exact .agg cs ws hl h1 ih
  | tup cs ws hl _ ih => exact .tup cs ws hl ih
  | nilmap => exact .nilmap
  | mp id b hh => exact .mp id b (h.ob _ _ hh)

structure Gh.On (n : Nat) (g g' : Gh) : Prop where
  G : ∀ b o v, g.G b o = some v → g'.G b o = some v
  ob : ∀ id p, id < n → g.ob id = some p → g'.ob id = some p
  ar : ∀ id k p, id < n → g.ar id k = some p → g'.ar id k = some p

theorem underAll_get {n : Nat} : ∀ {xs : List AV} (_ : AV.underAll n xs = true) {i : Nat} {x : AV}, xs[i]? = some x → x.under n = true
  | [], _, i, x, hx => by simp at hx
  | v :: r, h, i, x, hx => by
    simp only [AV.underAll, Bool.and_eq_true] at h
    cases i with
    | zero => simp at hx; exact hx ▸ h.1
    | succ i => simp at hx; exact underAll_get h.2 hx

theorem under_cells {n : Nat} {x : AV} (h : x.under n = true) {j : Nat} {y : AV} (hy : x.cells[j]? = some y) : y.under n = true := by
  cases x
  case agg cs => simp only [AV.under] at h; exact underAll_get h hy
  case tup cs => simp [AV.cells] at hy
  case undef => simp [AV.cells] at hy
  all_goals
    cases j with
    | zero => simp [AV.cells] at hy; subst hy; exact h
    | succ j => simp [AV.cells] at hy

theorem VR.on {C : Cx} {n : Nat} {g g' : Gh} (h : g.On n g') {x : AV} {v : Value} (r : VR C g x v) : x.under n = true → VR C g' x v := by
  induction r with
  | bool b => exact fun _ => .bool b
  | int k n => exact fun _ => .int k n
  | str s => exact fun _ => .str s
  | flt k b => exact fun _ => .flt k b
  | nil => exact fun _ => .nil
  | list xs b o cap sz f hc hsz hne hG _ ih =>
    intro hu
    simp only [AV.under] at hu
    exact .list xs b o cap sz f hc hsz hne (fun i j hi hj => h.G _ _ _ (hG i j hi hj)) (fun i j x y hx hy => ih i j x y hx hy (under_cells (underAll_get hu hx) hy))
  | cap0 a => exact fun _ => .cap0 a
  | msNil id sz hh => exact fun hu => .msNil id sz (h.ar _ _ _ (by simpa [AV.under] using hu) hh)
  | ms id ver lo len b o cap sz a hh hl ha => exact fun hu => .ms id ver lo len b o cap sz a (h.ar _ _ _ (by simpa [AV.under] using hu) hh) hl ha
  | imm v b o f h1 hne hG _ ih =>
    intro hu
    simp only [AV.under] at hu
    exact .imm v b o f h1 hne (fun j hj => h.G _ _ _ (hG j hj)) (fun j y hy => ih j y hy (under_cells hu hy))
  | nilp => exact fun _ => .nilp
  | ptr id off b o hh => exact fun hu => .ptr id off b o (h.ob _ _ (by simpa [AV.under] using hu) hh)
  | ap id ver i off b o cap sz hh => exact fun hu => .ap id ver i off b o cap sz (h.ar _ _ _ (by simpa [AV.under] using hu) hh)
  | fn f cap fid vs hh hl _ ih =>
    intro hu
    simp only [AV.under] at hu
    exact .fn f cap fid vs hh hl (fun i x y hx hy => ih i x y hx hy (underAll_get hu hx))
  | nilfn => exact fun _ => .nilfn
  | iface t v tid w hh _ ih => intro hu; simp only [AV.under] at hu; exact .iface t v tid w hh (ih hu)
  | niliface => exact fun _ => .niliface
  | agg cs ws hl h1 _ ih =>
    intro hu
    simp only [AV.under] at hu
    exact .agg cs ws hl h1 (fun i x y hx hy => ih i x y hx hy (underAll_get hu hx))
  | tup cs ws hl _ ih =>
    intro hu
    simp only [AV.under] at hu
    exact .tup cs ws hl (fun i x y hx hy => ih i x y hx hy (underAll_get hu hx))
  | nilmap => exact fun _ => .nilmap
  | mp id b hh => exact fun hu => .mp id b (h.ob _ _ (by simpa [AV.under] using hu) hh)

structure CR (C : Cx) (g : Gh) (cs : List AV) (ws : List Value) : Prop where
  len : cs.length = ws.length
  one : ∀ c ∈ cs, c.one = true
  rel : ∀ (i : Nat) (x : AV) (y : Value), cs[i]? = some x → ws[i]? = some y → VR C g x y

theorem VR.oneCell {C : Cx} {g : Gh} {x : AV} {v : Value} (r : VR C g x v) (h : x.one = true) : v.oneCell' = true := by
  cases r <;> first | rfl | simp [AV.one] at h

theorem VR.one_cells {C : Cx} {g : Gh} {x : AV} {v : Value} (r : VR C g x v) (h : x.one = true) : v.cells = #[v] := by
  cases r <;> first | rfl | simp [AV.one] at h

theorem AV.one_cells {x : AV} (h : x.one = true) : x.cells = [x] := by
  cases x <;> first | rfl | simp [AV.one] at h

theorem AV.not_one {x : AV} (h : x.one = false) (hc : x.cells ≠ []) : ∃ cs, x = .agg cs := by
  cases x <;> simp [AV.one, AV.cells] at h hc
  exact ⟨_, rfl⟩

theorem VR.cells {C : Cx} {g : Gh} {x : AV} {v : Value} (r : VR C g x v) (hne : x.cells ≠ [] ∨ ∃ cs, x = .agg cs) : CR C g x.cells v.cells.toList := by
  by_cases h : x.one = true
  · rw [AV.one_cells h, VR.one_cells r h]
    refine ⟨rfl, fun c hc => by simp at hc; exact hc ▸ h, fun i a b ha hb => ?_⟩
    cases i with
    | zero => simp at ha hb; exact ha ▸ hb ▸ r
    | succ i => simp at ha
  · have : ∃ cs, x = .agg cs := by
      rcases hne with hne | hne
      · exact AV.not_one (by simpa using h) hne
      · exact hne
    obtain ⟨cs, rfl⟩ := this
    cases r with
    | agg _ ws hl h1 hv => exact ⟨by simpa [AV.cells, Value.cells] using hl, h1, fun i a b ha hb => hv i a b ha (by simpa [Value.cells] using hb)⟩

inductive Owner where
  | free
  | imm
  | frgn
  | heap (id : Nat)
  | slot (s : Nat)
  deriving DecidableEq

abbrev Own := Nat → Nat → Owner

def Cell (w : World) (b o : Nat) (R : Value → Prop) : Prop := ∃ v, w.cell? ⟨b, o, none⟩ = some v ∧ w.frozen? ⟨b, o, none⟩ = false ∧ R v

def CellsAt (C : Cx) (g : Gh) (own : Own) (w : World) (ow : Owner) (b o : Nat) (cs : List AV) : Prop :=
  (∀ c ∈ cs, c.one = true) ∧ ∀ (j : Nat) (y : AV), cs[j]? = some y → own b (o + j) = ow ∧ Cell w b (o + j) (VR C g y)

def ArrAt (C : Cx) (g : Gh) (own : Own) (w : World) (id : Nat) (nil : Bool) (sz : Nat) (xs : List AV) (ph : Ph) : Prop :=
  ph.sz = sz ∧ match ph.base with
  | none => nil = true ∧ xs = [] ∧ ph.cap = 0
  | some (b, o) => (nil = false ∧ 0 < sz) ∧ xs.length ≤ ph.cap ∧ (∀ (i : Nat) (x : AV), xs[i]? = some x → x.cells.length = sz ∧ (∀ c ∈ x.cells, c.one = true)) ∧
      (∀ k, k < ph.cap * sz → own b (o + k) = .heap id ∧ Cell w b (o + k) fun _ => True) ∧
      ∀ (i : Nat) (x : AV) (j : Nat) (y : AV), xs[i]? = some x → x.cells[j]? = some y → ∃ v, w.cell? ⟨b, o + i * sz + j, none⟩ = some v ∧ VR C g y v

def MapR (C : Cx) (g : Gh) (es : List (AV × AV)) (ms : Array MapEntry) : Prop :=
  es.length = ms.size ∧ ∀ (i : Nat) (x : AV × AV) (m : MapEntry), es[i]? = some x → ms.toList[i]? = some m → VR C g x.1 m.key ∧ VR C g x.2 m.val

def MapAt (C : Cx) (g : Gh) (own : Own) (w : World) (id : Nat) (es : List (AV × AV)) : Prop :=
  ∃ b, g.ob id = some (b, 0) ∧ own b 0 = .heap id ∧ ∃ ms clock, w.heap[b]? = some (.map ms clock) ∧ MapR C g es ms

structure St (C : Cx) (g : Gh) (own : Own) (B : Nat) (H : Heap) (w : World) : Prop where
  imm : ∀ b o v, g.G b o = some v → own b o = .imm ∧ w.cell? ⟨b, o, none⟩ = some v
  obj : ∀ id cs, H.get id = some (.obj cs) → ∃ b o, g.ob id = some (b, o) ∧ CellsAt C g own w (.heap id) b o cs
  arr : ∀ id nil sz xs, H.get id = some (.arr nil sz xs) → (∃ ph, g.ar id xs.length = some ph ∧ ArrAt C g own w id nil sz xs ph) ∧ ∀ n ph, g.ar id n = some ph → ph.sz = sz ∧ n ≤ xs.length
  mp : ∀ id es, H.get id = some (.map es) → MapAt C g own w id es
  next : ∀ id, H.next ≤ id → H.get id = none ∧ g.ob id = none ∧ ∀ n, g.ar id n = none
  ext : ∀ b o, own b o = .free ∨ b < w.heap.size
  base : ∀ b o, (∃ x, own b o = .heap x ∨ own b o = .slot x) → B ≤ b
  size : B ≤ w.heap.size
  ro : H.ro ≤ H.next
  gl : ∀ b o v, C.gl b o = some v → g.G b o = some v

def SlotOK (C : Cx) (g : Gh) (own : Own) (w : World) (env : Env) (tm : Nat → Value) (s : Nat) : Prop :=
  match env.get s with
  | .no => True
  | .un => tm s = undef
  | .v x => VR C g x (tm s)
  | .lv cs => ∃ b o, tm s = .pointer (some ⟨b, o, none⟩) ∧ CellsAt C g own w (.slot s) b o cs
  | .lp s' off => ∃ cs b o, env.get s' = .lv cs ∧ tm s' = .pointer (some ⟨b, o, none⟩) ∧ tm s = .pointer (some ⟨b, o + off, none⟩)

def tmOf (tmps : Array Value) (s : Nat) : Value := tmps.getD s undef

structure Fr (C : Cx) (g : Gh) (own : Own) (w : World) (env : Env) (tmps : Array Value) (n : Nat) (L : List Nat) : Prop where
  size : tmps.size = n
  slots : ∀ s, SlotOK C g own w env (tmOf tmps) s
  lvs : ∀ s cs, env.get s = .lv cs → s ∈ L
  gl : ∀ b o v, C.gl b o = some v → g.G b o = some v

structure Ext (g : Gh) (own : Own) (B : Nat) (H : Heap) (w : World) (g' : Gh) (own' : Own) (H' : Heap) (w' : World) : Prop where
  le : g.Le g'
  ob : ∀ id, id < H.next → g'.ob id = g.ob id
  ar : ∀ id, id < H.ro → ∀ n, g'.ar id n = g.ar id n
  get : ∀ id, id < H.ro → H'.get id = H.get id
  ro : H'.ro = H.ro
  next : H.next ≤ H'.next
  fr : ∀ b o, own b o = .frgn → own' b o = .frgn ∧ w'.cell? ⟨b, o, none⟩ = w.cell? ⟨b, o, none⟩ ∧ w'.frozen? ⟨b, o, none⟩ = w.frozen? ⟨b, o, none⟩
  below : Below B w w'
  frm : ∀ b ms c, own b 0 = .frgn → w.heap[b]? = some (.map ms c) → w'.heap[b]? = some (.map ms c)

theorem Ext.refl (g : Gh) (own : Own) (B : Nat) (H : Heap) (w : World) : Ext g own B H w g own H w :=
  ⟨.refl g, fun _ _ => rfl, fun _ _ _ => rfl, fun _ _ => rfl, rfl, Nat.le_refl _, fun _ _ h => ⟨h, rfl, rfl⟩, .refl _ _, fun _ _ _ _ h => h⟩

theorem Ext.trans {B : Nat} {g g1 g2 : Gh} {o o1 o2 : Own} {H H1 H2 : Heap} {w w1 w2 : World} (h : Ext g o B H w g1 o1 H1 w1) (k : Ext g1 o1 B H1 w1 g2 o2 H2 w2) :
    Ext g o B H w g2 o2 H2 w2 where
  le := h.le.trans k.le
  ob := fun id hi => (k.ob id (Nat.lt_of_lt_of_le hi h.next)).trans (h.ob id hi)
  ar := fun id hi n => (k.ar id (h.ro ▸ hi) n).trans (h.ar id hi n)
  get := fun id hi => (k.get id (h.ro ▸ hi)).trans (h.get id hi)
  ro := k.ro.trans h.ro
  next := Nat.le_trans h.next k.next
  fr := fun b p hb => by
    obtain ⟨h1, h2, h3⟩ := h.fr b p hb
    obtain ⟨k1, k2, k3⟩ := k.fr b p h1
    exact ⟨k1, k2.trans h2, k3.trans h3⟩
  below := h.below.trans k.below
  frm := fun b ms c hb hm => k.frm b ms c (h.fr b 0 hb).1 (h.frm b ms c hb hm)
theorem MapR.mono {C : Cx} {g g' : Gh} (h : g.Le g') {es : List (AV × AV)} {ms : Array MapEntry} (r : MapR C g es ms) : MapR C g' es ms :=
  ⟨r.1, fun i x m hx hm => ⟨(r.2 i x m hx hm).1.mono h, (r.2 i x m hx hm).2.mono h⟩⟩

theorem MapAt.step {C : Cx} {g g' : Gh} {own own' : Own} {w w' : World} {id : Nat} {es : List (AV × AV)} (h : MapAt C g own w id es) (hle : g.Le g') (ho : ∀ b, own b 0 = .heap id → own' b 0 = .heap id)
    (hm : ∀ b ms c, own b 0 = .heap id → w.heap[b]? = some (.map ms c) → w'.heap[b]? = some (.map ms c)) : MapAt C g' own' w' id es := by
  obtain ⟨b, h1, h2, ms, c, h3, h4⟩ := h
  exact ⟨b, hle.ob _ _ h1, ho b h2, ms, c, hm b ms c h2 h3, h4.mono hle⟩

theorem map_setCell {w : World} {a : Addr} {v : Value} {b : Nat} {ms : Array MapEntry} {c : Nat} (h : w.heap[b]? = some (.map ms c)) : (w.setCell a v).heap[b]? = some (.map ms c) := by
  simp only [World.setCell, Array.getElem?_modify, h]
  split <;> rfl
end Ey

namespace Ey
open Go Go.RowKit

def cvCell : Value → AV → Bool
  | .bool a, .bool b => a == b
  | .int k n, .int k' m => k == k' && n == m
  | .string s, .str l => s.data.toList == l
  | .float k n, .flt k' m => k == k' && n == m
  | .slice none 0 0, .list true [] => true
  | .pointer none, .nilp => true
  | .nilFunc, .nilfn => true
  | .nilIface, .niliface => true
  | .map none, .nilmap => true
  | _, _ => false

def cvCells : List Value → List AV → Bool
  | [], [] => true
  | v :: vs, x :: xs => cvCell v x && cvCells vs xs
  | _, _ => false

def cv : Value → AV → Bool
  | .agg vs, .agg xs => cvCells vs.toList xs
  | v, x => cvCell v x

theorem cvCell_rel {C : Cx} {g : Gh} {v : Value} {x : AV} (h : cvCell v x = true) : VR C g x v ∧ x.one = true := by
  unfold cvCell at h
  split at h
  case h_1 => simp at h; subst h; exact ⟨.bool _, rfl⟩
  case h_2 => simp at h; obtain ⟨rfl, rfl⟩ := h; exact ⟨.int _ _, rfl⟩
  case h_3 => simp at h; subst h; exact ⟨.str _, rfl⟩
  case h_4 => simp at h; obtain ⟨rfl, rfl⟩ := h; exact ⟨.flt _ _, rfl⟩
  case h_5 => exact ⟨.nil, rfl⟩
  case h_6 => exact ⟨.nilp, rfl⟩
  case h_7 => exact ⟨.nilfn, rfl⟩
  case h_8 => exact ⟨.niliface, rfl⟩
  case h_9 => exact ⟨.nilmap, rfl⟩
  case h_10 => simp at h

theorem cvCells_rel {C : Cx} {g : Gh} : ∀ {vs : List Value} {xs : List AV}, cvCells vs xs = true → CR C g xs vs
  | [], [], _ => ⟨rfl, fun _ h => by simp at h, fun _ _ _ h => by simp at h⟩
  | [], _ :: _, h => by simp [cvCells] at h
  | _ :: _, [], h => by simp [cvCells] at h
  | v :: vs, x :: xs, h => by
    simp only [cvCells, Bool.and_eq_true] at h
    have h1 := cvCell_rel (C := C) (g := g) h.1
    have ih := cvCells_rel (C := C) (g := g) h.2
    refine ⟨by simp [ih.len], fun c hc => ?_, fun i a b ha hb => ?_⟩
    · rcases List.mem_cons.1 hc with rfl | hc
      · exact h1.2
      · exact ih.one c hc
    · cases i with
      | zero => simp at ha hb; exact ha ▸ hb ▸ h1.1
      | succ i => exact ih.rel i a b (by simpa using ha) (by simpa using hb)

theorem cv_rel {C : Cx} {g : Gh} {v : Value} {x : AV} (h : cv v x = true) : VR C g x v := by
  unfold cv at h
  split at h
  · rename_i vs xs
    have := cvCells_rel (C := C) (g := g) h
    exact .agg _ _ (by simpa using this.len) this.one (fun i a b ha hb => this.rel i a b ha (by simpa using hb))
  · exact (cvCell_rel h).1

def glf (l : List (Nat × List Value)) : Nat → Nat → Option Value := fun b o => (l.lookup b).bind fun c => c[o]?
def glbCells (C : Cx) (n : Nat) : Nat → List AV → Bool
  | _, [] => true
  | o, x :: r => (match C.gl n o with
    | some v => cvCell v x
    | none => false) && glbCells C n (o + 1) r
def glbOK (C : Cx) (n : Nat) (x : AV) : Bool := match x with
  | .agg [] => false
  | .tup _ => false
  | .undef => false
  | x => glbCells C n 0 x.cells

theorem glbCells_get {C : Cx} {n : Nat} : ∀ {l : List AV} {o : Nat}, glbCells C n o l = true → ∀ (j : Nat) (y : AV), l[j]? = some y → ∃ v, C.gl n (o + j) = some v ∧ cvCell v y = true
  | [], _, _, j, y, hy => by simp at hy
  | x :: r, o, h, j, y, hy => by
    simp only [glbCells, Bool.and_eq_true] at h
    cases j with
    | zero =>
      simp at hy
      subst hy
      revert h
      cases C.gl n o with
      | none => intro h; cases h.1
      | some v => intro h; exact ⟨v, rfl, h.1⟩
    | succ j =>
      have := glbCells_get h.2 j y (by simpa using hy)
      rw [show o + (j + 1) = o + 1 + j from by omega]; exact this
theorem glb_rel {C : Cx} {g : Gh} {n : Nat} {x : AV} (hg : ∀ b o v, C.gl b o = some v → g.G b o = some v) (h : glbOK C n x = true) : VR C g (.imm x) (.pointer (some ⟨n, 0, none⟩)) := by
  have hne : x.cells ≠ [] := by
    cases x with
    | agg cs => cases cs with
      | nil => simp [glbOK] at h
      | cons a l => simp [AV.cells]
    | tup cs => simp [glbOK] at h
    | undef => simp [glbOK] at h
    | _ => simp [AV.cells]
  have hc : glbCells C n 0 x.cells = true := by
    unfold glbOK at h
    split at h <;> first | cases h | exact h
  have key : ∀ (j : Nat) (y : AV), x.cells[j]? = some y → ∃ v, C.gl n j = some v ∧ cvCell v y = true := fun j y hy => by
    have := glbCells_get hc j y hy
    rwa [Nat.zero_add] at this
  refine .imm x n 0 (fun j => (C.gl n j).getD (.bool false)) (fun c hcm => ?_) hne (fun j hj => ?_) (fun j y hy => ?_)
  · obtain ⟨j, hj⟩ := List.getElem?_of_mem hcm
    obtain ⟨v, _, hv⟩ := key j c hj
    exact (cvCell_rel (C := C) (g := g) hv).2
  · obtain ⟨v, h1, _⟩ := key j _ (List.getElem?_eq_getElem hj)
    rw [Nat.zero_add]
    simp only [h1, Option.getD_some]
    exact hg n j v h1
  · obtain ⟨v, h1, hv⟩ := key j y hy
    simp only [h1, Option.getD_some]
    exact (cvCell_rel hv).1

def opdOK (C : Cx) : Operand → Opd → Bool
  | .tmp t, .t u => t == u
  | .const v, .k x => cv v x
  | .func f, .k (.fn f' []) => C.fm f' == some f
  | .global n, .k (.imm x) => glbOK C n x
  | _, _ => false

def opdsOK (C : Cx) : List Operand → List Opd → Bool
  | [], [] => true
  | x :: xs, y :: ys => opdOK C x y && opdsOK C xs ys
  | _, _ => false

def optOK (C : Cx) : Option Operand → Option Opd → Bool
  | none, none => true
  | some x, some y => opdOK C x y
  | _, _ => false

def SlR (C : Cx) (g : Gh) (env : Env) (tm : Nat → Value) (x : Sl) (v : Value) : Prop :=
  match x with
  | .v y => VR C g y v
  | .lp s off => ∃ cs b o, env.get s = .lv cs ∧ tm s = .pointer (some ⟨b, o, none⟩) ∧ v = .pointer (some ⟨b, o + off, none⟩)
  | .un => v = undef
  | _ => True

section
variable {C : Cx} {g : Gh} {own : Own} {w : World} {env : Env} {a : Act} {n : Nat} {L : List Nat}

theorem sl_rel (hf : Fr C g own w env a.tmps n L) {x : Operand} {y : Opd} (h : opdOK C x y = true) {s : Sl} (hs : env.sl y = s) (hn : s ≠ .no) :
    SlR C g env (tmOf a.tmps) s (a.eval x) := by
  cases x <;> cases y <;> simp [opdOK] at h
  case tmp.t t u =>
    subst h
    have h1 := hf.slots t
    simp only [SlotOK] at h1
    simp only [Env.sl] at hs
    cases hg : env.get t with
    | no => simp only [hg] at hs; exact absurd hs.symm hn
    | un => simp only [hg] at hs h1; subst hs; exact h1
    | v z => simp only [hg] at hs h1; subst hs; exact h1
    | lv cs =>
      simp only [hg] at hs h1; subst hs
      obtain ⟨b, o, h2, _⟩ := h1
      exact ⟨cs, b, o, hg, h2, h2⟩
    | lp s' off =>
      simp only [hg] at hs h1; subst hs
      exact h1
  case const.k v z =>
    simp only [Env.sl] at hs; subst hs
    exact cv_rel h
  case func.k f z =>
    cases z <;> try (simp at h; done)
    case fn f' l =>
      cases l with
      | nil =>
        simp only [Env.sl] at hs; subst hs
        exact .fn f' [] f #[] (by simpa using h) rfl (fun i x y hx => by simp at hx)
      | cons _ _ => simp at h
  case global.k m z =>
    cases z <;> try (simp at h; done)
    case imm x =>
      simp only [Env.sl] at hs; subst hs
      exact glb_rel hf.gl h

theorem av_rel (hf : Fr C g own w env a.tmps n L) {x : Operand} {y : Opd} (h : opdOK C x y = true) {z : AV} (hz : env.av y = some z) : VR C g z (a.eval x) := by
  unfold Env.av at hz
  split at hz
  · rename_i q hq
    simp at hz; subst hz
    exact sl_rel hf h hq (by simp)
  · simp at hz
end

def tyOK (P : Program) (t : TypeId) (sz : Nat) (ag : Bool) : Bool :=
  match P.info? t, P.underlying t with
  | some i, some d => i.size == sz && (match d with | .struct _ | .array _ _ => true | _ => false) == ag && decide (0 < sz) && (ag || sz == 1)
  | _, _ => false

structure TyIs (P : Program) (t : TypeId) (sz : Nat) (ag : Bool) : Prop where
  info : ∃ i, P.info? t = some i ∧ i.size = sz
  und : ∃ d, P.underlying t = some d ∧ (match d with | .struct _ | .array _ _ => true | _ => false) = ag
  pos : 0 < sz
  one : ag = false → sz = 1

theorem tyIs {P : Program} {t : TypeId} {sz : Nat} {ag : Bool} (h : tyOK P t sz ag = true) : TyIs P t sz ag := by
  unfold tyOK at h
  split at h
  · rename_i i d hi hd
    simp only [Bool.and_eq_true, beq_iff_eq, decide_eq_true_eq, Bool.or_eq_true] at h
    obtain ⟨⟨⟨h1, h2⟩, h3⟩, h4⟩ := h
    exact ⟨⟨i, hi, h1⟩, ⟨d, hd, h2⟩, h3, fun h => by rcases h4 with h4 | h4 <;> simp_all⟩
  · simp at h

theorem TyIs.run_isAgg {P : Program} {t : TypeId} {sz : Nat} {ag : Bool} (h : TyIs P t sz ag) (w : World) : (isAgg t).run P w = .ok ag w := by
  obtain ⟨d, hd, h2⟩ := h.und
  subst h2
  simp only [isAgg, Sem.run_bind, run_underlying hd, Result.andThen_ok]
  cases d <;> rfl

theorem TyIs.run_size {P : Program} {t : TypeId} {sz : Nat} {ag : Bool} (h : TyIs P t sz ag) (w : World) : (Go.sizeOf t).run P w = .ok sz w := by
  obtain ⟨i, hi, h2⟩ := h.info
  subst h2
  simp [Go.sizeOf, typeInfo, hi]

theorem add_at (b o n : Nat) : (⟨b, o, none⟩ : Addr).add n = ⟨b, o + n, none⟩ := by
  unfold Addr.add; split <;> simp_all

theorem run_loadVar_at {P : Program} {t : TypeId} {sz : Nat} {ag : Bool} (h : TyIs P t sz ag) (w : World) (b o : Nat) (vs : List Value) (hl : vs.length = sz)
    (hc : ∀ j v, vs[j]? = some v → w.cell? ⟨b, o + j, none⟩ = some v) :
    (loadVar t ⟨b, o, none⟩).run P w = .ok (if ag then .agg vs.toArray else vs.headD undef) w := by
  simp only [loadVar, Sem.run_bind, h.run_isAgg, Result.andThen_ok]
  cases ag with
  | true =>
    simp only [if_true, Sem.run_bind, h.run_size, Result.andThen_ok]
    have := run_loadCells_list (P := P) w ⟨b, o, none⟩ vs (fun j v hv => by rw [add_at]; exact hc j v hv)
    rw [hl] at this
    simp [this]
  | false =>
    have h1 := h.one rfl
    subst h1
    match vs, hl with
    | [v], _ =>
      have := hc 0 v rfl
      simp only [Nat.add_zero] at this
      simp [run_load, this]

theorem part_rel {C : Cx} {g : Gh} {sz off : Nat} {ag : Bool} {cs : List AV} {x : AV} (hp : part sz ag cs off = some x) {vs : List Value} (hl : vs.length = sz) (h1 : ag = false → sz = 1)
    (ho : ∀ c ∈ cs, c.one = true) (hr : ∀ (j : Nat) (y : AV) (v : Value), cs[off + j]? = some y → vs[j]? = some v → VR C g y v) :
    VR C g x (if ag then .agg vs.toArray else vs.headD undef) ∧ x.cells.length = sz ∧ (∀ c ∈ x.cells, c.one = true) := by
  unfold part at hp
  cases ag with
  | true =>
    simp only [if_true] at hp
    split at hp
    · rename_i hle
      simp at hp; subst hp
      have hlen : ((cs.drop off).take sz).length = sz := by simp; omega
      refine ⟨.agg _ _ (by simp [hl]; omega) (fun c hc => ho c (List.mem_of_mem_drop (List.mem_of_mem_take hc))) (fun i a b ha hb => ?_), hlen, fun c hc => ho c (List.mem_of_mem_drop (List.mem_of_mem_take hc))⟩
      have hi : i < sz := by
        have := (List.getElem?_eq_some_iff.1 ha).1
        omega
      rw [List.getElem?_take, if_pos hi, List.getElem?_drop] at ha
      exact hr i a b ha (by simpa using hb)
    · simp at hp
  | false =>
    simp only [Bool.false_eq_true, if_false] at hp
    have hs := h1 rfl
    subst hs
    have hone := ho x (List.mem_of_getElem? hp)
    match vs, hl with
    | [v], _ =>
      refine ⟨by simpa using hr 0 x v (by simpa using hp) rfl, by rw [AV.one_cells hone]; rfl, by rw [AV.one_cells hone]; simpa using hone⟩

theorem part_len {sz off : Nat} {ag : Bool} {cs : List AV} {x : AV} (hp : part sz ag cs off = some x) (h1 : ag = false → sz = 1) : off + sz ≤ cs.length := by
  unfold part at hp
  cases ag with
  | true => simp only [if_true] at hp; split at hp <;> simp_all
  | false =>
    simp only [Bool.false_eq_true, if_false] at hp
    have := (List.getElem?_eq_some_iff.1 hp).1
    have := h1 rfl
    omega

end Ey

namespace Ey
open Go Go.RowKit

theorem gather {p : Nat → Value → Prop} : ∀ (n : Nat), (∀ j, j < n → ∃ v, p j v) → ∃ vs : List Value, vs.length = n ∧ ∀ j v, vs[j]? = some v → p j v
  | 0, _ => ⟨[], rfl, fun j v h => by simp at h⟩
  | n + 1, h => by
    obtain ⟨vs, hl, hv⟩ := gather n (fun j hj => h j (by omega))
    obtain ⟨v, hp⟩ := h n (by omega)
    refine ⟨vs ++ [v], by simp [hl], fun j u hu => ?_⟩
    by_cases hj : j < vs.length
    · rw [List.getElem?_append_left hj] at hu; exact hv j u hu
    · rw [List.getElem?_append_right (by omega)] at hu
      have : j - vs.length = 0 := by
        have := (List.getElem?_eq_some_iff.1 hu).1
        simp at this; omega
      rw [this] at hu
      simp at hu
      obtain rfl : j = n := by omega
      exact hu ▸ hp

section
variable {C : Cx} {g : Gh} {own : Own} {B : Nat} {H : Heap} {w : World} {env : Env} {a : Act} {n : Nat} {L : List Nat}

theorem load_part {t : TypeId} {sz off : Nat} {ag : Bool} (ht : TyIs C.P t sz ag) {cs : List AV} {x : AV} (hp : part sz ag cs off = some x) (h1 : ∀ c ∈ cs, c.one = true)
    {b o : Nat} (hc : ∀ (j : Nat) (y : AV), cs[off + j]? = some y → ∃ v, w.cell? ⟨b, o + j, none⟩ = some v ∧ VR C g y v) :
    ∃ v, (loadVar t ⟨b, o, none⟩).run C.P w = .ok v w ∧ VR C g x v := by
  have hle := part_len hp ht.one
  obtain ⟨vs, hl, hv⟩ := gather (p := fun j v => w.cell? ⟨b, o + j, none⟩ = some v ∧ ∀ y, cs[off + j]? = some y → VR C g y v) sz (fun j hj => by
    have hlt : off + j < cs.length := by omega
    obtain ⟨v, hv1, hv2⟩ := hc j _ (List.getElem?_eq_getElem hlt)
    exact ⟨v, hv1, fun y hy => by rw [List.getElem?_eq_getElem hlt] at hy; simp at hy; exact hy ▸ hv2⟩)
  exact ⟨_, run_loadVar_at ht w b o vs hl (fun j v hj => (hv j v hj).1), (part_rel hp hl ht.one h1 (fun j y v hy hj => (hv j v hj).2 y hy)).1⟩

theorem ld_sim (hS : St C g own B H w) (hF : Fr C g own w env a.tmps n L) {t : TypeId} {sz : Nat} {ag : Bool} (ht : TyIs C.P t sz ag) {x : Operand} {y : Opd} (hx : opdOK C x y = true)
    {z : AV} (hz : ldS env H sz ag (env.sl y) = some z) : ∃ v, (Instr.loadAt t (a.eval x)).run C.P w = .ok v w ∧ VR C g z v := by
  have hs := sl_rel hF hx rfl (s := env.sl y) (by intro h; rw [h] at hz; simp [ldS] at hz)
  have go : ∀ b o, a.eval x = .pointer (some ⟨b, o, none⟩) → (Instr.loadAt t (a.eval x)).run C.P w = (loadVar t ⟨b, o, none⟩).run C.P w := by
    intro b o h; rw [h]; simp [Instr.loadAt, Instr.sureAddr]
  generalize a.eval x = vx at hs go ⊢
  unfold ldS at hz
  split at hz
  · rename_i s off hq
    rw [hq] at hs
    obtain ⟨cs, b, o, h1, h2, h3⟩ := hs
    simp only [h1] at hz
    rw [go _ _ h3]
    have h4 := hF.slots s
    simp only [SlotOK, h1] at h4
    obtain ⟨b', o', h5, h6, h7⟩ := h4
    rw [h5] at h2; simp at h2; obtain ⟨rfl, rfl⟩ := h2
    exact load_part ht hz h6 (fun j y hy => by
      obtain ⟨_, v, hv1, _, hv2⟩ := h7 _ _ hy
      exact ⟨v, by rw [Nat.add_assoc]; exact hv1, hv2⟩)
  · rename_i x' hq
    rw [hq] at hs
    split at hz
    · rename_i hl
      cases hs with
      | imm _ b o f h1 hne hG hv =>
        rw [go b o rfl]
        exact load_part ht hz h1 (fun j y hy => by
          have hj : j < x'.cells.length := by
            have := (List.getElem?_eq_some_iff.1 hy).1
            omega
          exact ⟨f j, (hS.imm _ _ _ (hG j hj)).2, hv j y (by simpa using hy)⟩)
    · simp at hz
  · rename_i id off hq
    rw [hq] at hs
    split at hz
    · rename_i cs hg
      cases hs with
      | ptr _ _ b o hb =>
        rw [go b (o + off) rfl]
        obtain ⟨b', o', h1, h2, h3⟩ := hS.obj _ _ hg
        rw [hb] at h1; simp at h1; obtain ⟨rfl, rfl⟩ := h1
        exact load_part ht hz h2 (fun j y hy => by
          obtain ⟨_, v, hv1, _, hv2⟩ := h3 _ _ hy
          exact ⟨v, by rw [Nat.add_assoc]; exact hv1, hv2⟩)
    · simp at hz
  · rename_i id ver i off hq
    rw [hq] at hs
    split at hz
    · rename_i nl sz' xs hg
      split at hz
      · rename_i hver
        split at hz
        · rename_i x' hx'
          cases hs with
          | ap _ _ _ _ b o cap sz'' hb =>
            rw [go b _ rfl]
            obtain ⟨⟨ph, h1, h2, h3⟩, _⟩ := hS.arr _ _ _ _ hg
            subst hver
            rw [hb] at h1; simp at h1; subst h1
            simp only at h2 h3
            subst h2
            obtain ⟨_, _, h4, _, h6⟩ := h3
            exact load_part ht hz (h4 i x' hx').2 (fun j y hy => by
              obtain ⟨v, hv1, hv2⟩ := h6 i x' _ y hx' hy
              exact ⟨v, by rw [Nat.add_assoc]; exact hv1, hv2⟩)
        · simp at hz
      · simp at hz
    · simp at hz
  · simp at hz

theorem part_cells {sz off : Nat} {ag : Bool} {cs : List AV} {x : AV} (hp : part sz ag cs off = some x) (h1 : ag = false → sz = 1) (ho : ∀ c ∈ cs, c.one = true) :
    x.cells.length = sz ∧ (∀ c ∈ x.cells, c.one = true) ∧ ∀ (j : Nat) (y : AV), x.cells[j]? = some y → cs[off + j]? = some y := by
  have hle := part_len hp h1
  unfold part at hp
  cases ag with
  | true =>
    simp only [if_true, if_pos hle, Option.some.injEq] at hp
    subst hp
    refine ⟨by simp [AV.cells]; omega, fun c hc => ho c (List.mem_of_mem_drop (List.mem_of_mem_take hc)), fun j y hy => ?_⟩
    have hj : j < sz := by
      have := (List.getElem?_eq_some_iff.1 hy).1
      simp [AV.cells] at this; omega
    simp only [AV.cells] at hy
    rwa [List.getElem?_take, if_pos hj, List.getElem?_drop] at hy
  | false =>
    simp only [Bool.false_eq_true, if_false] at hp
    have hone := ho x (List.mem_of_getElem? hp)
    have hs := h1 rfl
    subst hs
    rw [AV.one_cells hone]
    refine ⟨rfl, by simpa using hone, fun j y hy => ?_⟩
    cases j with
    | zero => simp at hy; subst hy; simpa using hp
    | succ j => simp at hy

theorem addr_sim {off sz : Nat} {ag : Bool} (h0 : 0 < sz) (h1 : ag = false → sz = 1) {s s' : Sl} (h : addrS off sz ag s = some s') {v : Value} (hs : SlR C g env (tmOf a.tmps) s v) :
    ∃ b o, v = .pointer (some ⟨b, o, none⟩) ∧ SlR C g env (tmOf a.tmps) s' (.pointer (some ⟨b, o + off, none⟩)) := by
  unfold addrS at h
  split at h
  · rename_i s o
    simp at h; subst h
    obtain ⟨cs, b, o', h2, h3, rfl⟩ := hs
    exact ⟨b, o' + o, rfl, cs, b, o', h2, h3, by rw [Nat.add_assoc]⟩
  · rename_i x
    simp only [Option.map_eq_some_iff] at h
    obtain ⟨y, hy, rfl⟩ := h
    cases hs with
    | imm _ b o f ho hne hG hv =>
      obtain ⟨hl, hone, hc⟩ := part_cells hy h1 ho
      have hle := part_len hy h1
      have hyne : y.cells ≠ [] := by intro e; rw [e] at hl; simp at hl; omega
      refine ⟨b, o, rfl, .imm y b (o + off) (fun j => f (off + j)) hone hyne (fun j hj => ?_) (fun j z hz => hv _ _ (hc j z hz))⟩
      rw [Nat.add_assoc]
      exact hG _ (by omega)
  · rename_i id o
    simp at h; subst h
    cases hs with
    | ptr _ _ b o' hb => exact ⟨b, o' + o, rfl, by rw [Nat.add_assoc]; exact .ptr id (o + off) b o' hb⟩
  · rename_i id ver i o
    simp at h; subst h
    cases hs with
    | ap _ _ _ _ b o' cap sz' hb => exact ⟨b, _, rfl, by rw [Nat.add_assoc]; exact .ap id ver i (o + off) b o' cap sz' hb⟩
  · simp at h

def fieldOK (P : Program) (s : TypeId) (k off sz : Nat) (ag : Bool) : Bool :=
  match P.underlying s with
  | some (.struct fs) => match fs[k]? with
    | some f => f.offset == off && tyOK P f.type sz ag
    | none => false
  | _ => false

theorem fa_sim (hF : Fr C g own w env a.tmps n L) {t : TypeId} {k off sz : Nat} {ag : Bool} (ht : fieldOK C.P t k off sz ag = true) {x : Operand} {y : Opd} (hx : opdOK C x y = true)
    {z : Sl} (hz : addrS off sz ag (env.sl y) = some z) : ∃ v, (Instr.fieldAt t (a.eval x) k).run C.P w = .ok v w ∧ SlR C g env (tmOf a.tmps) z v := by
  unfold fieldOK at ht
  split at ht
  · rename_i fs hu
    split at ht
    · rename_i f hf
      simp only [Bool.and_eq_true, beq_iff_eq] at ht
      have hty := tyIs ht.2
      have hs := sl_rel hF hx rfl (s := env.sl y) (by intro h; rw [h] at hz; simp [addrS] at hz)
      obtain ⟨b, o, h1, h2⟩ := addr_sim hty.pos hty.one hz hs
      refine ⟨_, ?_, h2⟩
      have hpos := hty.pos
      simp [Instr.fieldAt, run_underlying hu, hf, Instr.sureAddr, h1, fieldPlace, hty.run_size, ht.1, add_at]
      intro h0; omega
    · simp at ht
  · simp at ht

def arrOK (P : Program) (t : TypeId) (n sz : Nat) (ag : Bool) : Bool :=
  match P.underlying t with
  | some (.array m e) => m == n && tyOK P e sz ag
  | _ => false

theorem ia_sim (hF : Fr C g own w env a.tmps n L) {t : TypeId} {m sz : Nat} {ag : Bool} (ht : arrOK C.P t m sz ag = true) {x i : Operand} {y j : Opd} (hx : opdOK C x y = true) (hi : opdOK C i j = true)
    {q : IntKind} {k : Int} (hk : env.av j = some (.int q k)) (h0 : 0 ≤ k) (hm : k < m)
    {z : Sl} (hz : addrS (k.toNat * sz) sz ag (env.sl y) = some z) : ∃ v, (Instr.indexAt t (a.eval x) (a.eval i)).run C.P w = .ok v w ∧ SlR C g env (tmOf a.tmps) z v := by
  unfold arrOK at ht
  split at ht
  · rename_i m' e hu
    simp only [Bool.and_eq_true, beq_iff_eq] at ht
    obtain ⟨rfl, ht⟩ := ht
    have hty := tyIs ht
    have hs := sl_rel hF hx rfl (s := env.sl y) (by intro h; rw [h] at hz; simp [addrS] at hz)
    obtain ⟨b, o, h1, h2⟩ := addr_sim hty.pos hty.one hz hs
    have h3 := av_rel hF hi hk
    generalize a.eval i = vi at h3
    cases h3
    refine ⟨_, ?_, h2⟩
    simp [Instr.indexAt, asIntOf, run_underlying hu, h1, Instr.sureAddr, h0, hm, hty.run_size, add_at]
  · simp at ht

def slcOK (P : Program) (t : TypeId) (sz : Nat) : Bool :=
  match P.underlying t with
  | some (.slice e) => match P.info? e with
    | some i => i.size == sz && decide (0 < sz)
    | none => false
  | _ => false

theorem slc_is {P : Program} {t : TypeId} {sz : Nat} (h : slcOK P t sz = true) : ∃ e i, P.underlying t = some (.slice e) ∧ P.info? e = some i ∧ i.size = sz ∧ 0 < sz := by
  unfold slcOK at h
  split at h
  · rename_i e hu
    split at h
    · rename_i i hi
      simp only [Bool.and_eq_true, beq_iff_eq, decide_eq_true_eq] at h
      exact ⟨e, i, hu, hi, h.1, h.2⟩
    · simp at h
  · simp at h

theorem ix_sim (hS : St C g own B H w) (hF : Fr C g own w env a.tmps n L) {t : TypeId} {sz : Nat} (ht : slcOK C.P t sz = true) {x i : Operand} {y j : Opd} (hx : opdOK C x y = true) (hi : opdOK C i j = true)
    {z : Sl} (hz : opv env H (.ix sz y j) = some z) : ∃ v, (Instr.indexAt t (a.eval x) (a.eval i)).run C.P w = .ok v w ∧ SlR C g env (tmOf a.tmps) z v := by
  obtain ⟨e, ie, hu, hie, hsz, hpos⟩ := slc_is ht
  have hsize : (Go.sizeOf e).run C.P w = .ok sz w := by simp [Go.sizeOf, typeInfo, hie, hsz]
  simp only [opv] at hz
  split at hz
  · rename_i nl xs q k h1 h2
    split at hz
    · rename_i h0
      split at hz
      · rename_i y' hy'
        split at hz
        · rename_i hl
          simp at hz; subst hz
          have hi' := av_rel hF hi h2
          generalize a.eval i = vi at hi'
          cases hi'
          have hx' := av_rel hF hx h1
          generalize a.eval x = vx at hx'
          cases hx' with
          | nil => simp at hy'
          | list _ b o cap sz' f hc hs hne hG hv =>
            obtain ⟨hs1, hs2⟩ := hs _ _ hy'
            have hlt := (List.getElem?_eq_some_iff.1 hy').1
            refine ⟨.pointer (some ⟨b, o + k.toNat * sz, none⟩), ?_, .imm y' b _ (f k.toNat) hs2 (hne _ _ hy') (fun j hj => ?_) (fun j y hy => hv _ _ _ _ hy' hy)⟩
            · have : k < (xs.length : Int) := by omega
              simp [Instr.indexAt, asIntOf, run_underlying hu, h0, this, hsize, add_at]
            · have : sz = sz' := by omega
              subst this
              exact hG _ _ hlt (by omega)
        · simp at hz
      · simp at hz
    · simp at hz
  · rename_i id ver lo len q k h1 h2
    split at hz
    · rename_i h0
      split at hz
      · rename_i nl z' xs hg
        split at hz
        · rename_i hzz
          simp at hz; subst hz
          have hi' := av_rel hF hi h2
          generalize a.eval i = vi at hi'
          cases hi'
          have hx' := av_rel hF hx h1
          generalize a.eval x = vx at hx'
          obtain ⟨_, hall⟩ := hS.arr _ _ _ _ hg
          cases hx' with
          | msNil => omega
          | ms _ _ _ _ b o cap sz' ad hh hl ha =>
            have hsz' : sz' = sz := (hall _ _ hh).1.trans hzz
            subst hsz'
            have had : ad = ⟨b, o + lo * sz', none⟩ := ha.2.resolve_left (by omega)
            subst had
            refine ⟨.pointer (some ⟨b, o + (lo + k.toNat) * sz' + 0, none⟩), ?_, .ap id ver _ 0 b o cap sz' hh⟩
            have hlt : k < (len : Int) := h0.2
            simp [Instr.indexAt, asIntOf, run_underlying hu, h0.1, hlt, hsize, add_at, Nat.add_mul, Nat.add_assoc]
        · simp at hz
      · simp at hz
    · simp at hz
  · simp at hz
end
end Ey

namespace Ey
open Go Go.RowKit

section
variable {C : Cx} {g : Gh} {own : Own} {B : Nat} {H : Heap} {w : World} {env : Env} {a : Act} {n : Nat} {L : List Nat}

theorem strLess_eq : ∀ x y, strLess x y = Op.bytesLess x y
  | _, [] => by cases ‹List UInt8› <;> rfl
  | [], _ :: _ => rfl
  | a :: x, b :: y => by simp only [strLess, Op.bytesLess, strLess_eq x y]

theorem eqGuard_int (op : BinOp) (t : TypeId) (x y : Operand) (k k' : IntKind) (m m' : Int) : (eqGuard op t x y (.int k m) (.int k' m')).run C.P w = .ok () w := by
  cases op <;> simp [eqGuard]
theorem eqGuard_str (op : BinOp) (t : TypeId) (x y : Operand) (m m' : ByteArray) : (eqGuard op t x y (.string m) (.string m')).run C.P w = .ok () w := by
  cases op <;> simp [eqGuard]

theorem bin_sim {op : BinOp} {p q z : AV} (hz : binAV op p q = some z) {u v : Value} (hp : VR C g p u) (hq : VR C g q v) (t : TypeId) (x y : Operand) :
    ∃ r, (do eqGuard op t x y u v; Go.binOp op t u v : Sem Value).run C.P w = .ok r w ∧ VR C g z r := by
  unfold binAV at hz
  split at hz
  · rename_i k m k' m'
    cases hp; cases hq
    simp only [Sem.run_bind, eqGuard_int (C := C) (w := w), Result.andThen_ok]
    cases op
    case shl => 
      simp only [shI] at hz
      split at hz
      · simp at hz
      · rename_i hneg
        simp at hz; subst hz
        refine ⟨_, ?_, .int _ _⟩
        simp [Go.binOp, Op.shift, hneg]
    case shr =>
      simp only [shI] at hz
      split at hz
      · simp at hz
      · rename_i hneg
        simp at hz; subst hz
        refine ⟨_, ?_, .int _ _⟩
        simp [Go.binOp, Op.shift, hneg]
    all_goals
      simp only at hz
      split at hz
      · rename_i hk
        subst hk
        simp only [arI, cmpI] at hz
        first
          | (simp only [Option.map_some, Option.some.injEq] at hz; subst hz
             exact ⟨_, by simp only [Go.binOp, Op.intArith, Op.intBits, Op.intCmp, ne_eq, not_true_eq_false, if_false]; try rfl, by first | exact .int _ _ | exact .bool _⟩)
          | (split at hz
             · simp at hz
             · rename_i h0
               simp at hz; subst hz
               exact ⟨_, by simp only [Go.binOp, Op.intDiv, h0, ne_eq, not_true_eq_false, if_false]; try rfl, .int _ _⟩)
      · simp at hz
  · rename_i s s'
    generalize hps : AV.str s = ps at hp
    generalize hqs : AV.str s' = qs at hq
    cases hp <;> try (simp at hps; done)
    cases hq <;> try (simp at hqs; done)
    rename_i bs bs'
    simp at hps hqs
    subst hps; subst hqs
    simp only [Sem.run_bind, eqGuard_str (C := C) (w := w), Result.andThen_ok]
    cases op
    case add =>
      simp only at hz
      split at hz
      · rename_i hle
        simp only [Option.some.injEq] at hz
        subst hz
        have hm : IntKind.i64.max = 9223372036854775807 := rfl
        have hsz : ∀ b : ByteArray, b.data.toList.length = b.size := fun b => Array.length_toList
        rw [hsz, hsz] at hle
        have hn : ¬ (((bs.size + bs'.size : Nat) : Int) > IntKind.i64.max) := by rw [hm]; omega
        refine ⟨.string (bs ++ bs'), ?_, ?_⟩
        · simp only [Go.binOp, Op.stringOp, if_neg hn, Sem.run_pure]
        · have : bs.data.toList ++ bs'.data.toList = (bs ++ bs').data.toList := by simp
          rw [this]; exact .str _
      · simp at hz
    all_goals first
      | (simp only [Option.some.injEq] at hz; subst hz
         exact ⟨_, by simp only [Go.binOp, Op.stringOp, ByteArray.toList_eq, Sem.run_pure, strLess_eq]; try rfl, .bool _⟩)
      | (simp at hz; done)
  · rename_i k m k' m'
    cases hp; cases hq
    split at hz
    · rename_i hk
      subst hk
      have hg : (eqGuard op t x y (.float k m) (.float k m')).run C.P w = .ok () w := by cases op <;> simp [eqGuard]
      simp only [Sem.run_bind, hg, Result.andThen_ok]
      cases op <;> simp only [fltAV, Option.map_eq_some_iff, Option.some.injEq, reduceCtorEq] at hz
      all_goals first
        | (obtain ⟨r, hr, rfl⟩ := hz
           exact ⟨.float k r, by simp [Go.binOp, Op.floatArith, hr], .flt _ _⟩)
        | (subst hz
           exact ⟨_, by simp only [Go.binOp, Op.floatCmp, ne_eq, not_true_eq_false, if_false]; rfl, .bool _⟩)
    · simp at hz
  · simp at hz

theorem un_sim {op : UnOp} {p z : AV} (hz : unAV op p = some z) {u : Value} (hp : VR C g p u) : ∃ r, (Op.unary op u).run C.P w = .ok r w ∧ VR C g z r := by
  unfold unAV at hz
  split at hz
  · cases hp; simp at hz; subst hz; exact ⟨_, rfl, .bool _⟩
  · cases hp; simp only [Option.some.injEq] at hz; subst hz; exact ⟨_, rfl, .int _ _⟩
  · cases hp; simp only [Option.some.injEq] at hz; subst hz; exact ⟨_, rfl, .int _ _⟩
  · simp at hz

theorem cvi_sim {src dst : TypeId} {k k' : IntKind} {m : Int} {u : Value} {d : TypeDesc} (hs : C.P.underlying src = some d) (hd : C.P.underlying dst = some (.int k)) (hp : VR C g (.int k' m) u) :
    (Go.convert src dst u).run C.P w = .ok (.int k (k.wrap m)) w := by
  cases hp
  simp [Go.convert, run_underlying hs, run_underlying hd, Conv.intToInt]

theorem part_val {t : TypeId} {sz off : Nat} {ag : Bool} (ht : TyIs C.P t sz ag) {cs : List AV} {x : AV} (hp : part sz ag cs off = some x) {ws : Array Value} (hl : cs.length = ws.size)
    (h1 : ∀ c ∈ cs, c.one = true) (hv : ∀ (i : Nat) (x : AV) (y : Value), cs[i]? = some x → ws[i]? = some y → VR C g x y) :
    ∃ v, (Go.part t ws off).run C.P w = .ok v w ∧ VR C g x v := by
  have hle := part_len hp ht.one
  have hr := (part_rel (C := C) (g := g) hp (vs := (ws.toList.drop off).take sz) (by simp; omega) ht.one h1 (fun j y v hy hj => by
    have hj' : j < sz := by
      have := (List.getElem?_eq_some_iff.1 hj).1
      simp at this; omega
    rw [List.getElem?_take, if_pos hj', List.getElem?_drop] at hj
    exact hv _ _ _ hy (by simpa using hj))).1
  refine ⟨_, ?_, hr⟩
  simp only [Go.part, Sem.run_bind, ht.run_isAgg, Result.andThen_ok]
  cases ag with
  | true =>
    simp only [if_true, Sem.run_bind, ht.run_size, Result.andThen_ok]
    simp only [Sem.run_pure]
    congr 2
    apply Array.ext'
    simp [Array.toList_extract, List.extract_eq_take_drop]
  | false =>
    have h2 := ht.one rfl
    subst h2
    have hlt : off < ws.size := by omega
    simp [hlt]
    have : ((List.drop off ws.toList).take 1).headD undef = ws[off] := by
      rw [List.drop_eq_getElem_cons (by simpa using hlt)]; simp
    simpa using this.symm

theorem agg_inv {cs : List AV} {v : Value} (h : VR C g (.agg cs) v) : ∃ ws, v = .agg ws ∧ cs.length = ws.size ∧ (∀ c ∈ cs, c.one = true) ∧
    ∀ (i : Nat) (x : AV) (y : Value), cs[i]? = some x → ws[i]? = some y → VR C g x y := by
  cases h with
  | agg _ ws hl h1 hv => exact ⟨ws, rfl, hl, h1, hv⟩

theorem fld_sim {t : TypeId} {k off sz : Nat} {ag : Bool} (ht : fieldOK C.P t k off sz ag = true) {cs : List AV} {z : AV} (hp : part sz ag cs off = some z) {u : Value} (hu : VR C g (.agg cs) u) :
    ∃ v, (Instr.field t u k).run C.P w = .ok v w ∧ VR C g z v := by
  unfold fieldOK at ht
  split at ht
  · rename_i fs hund
    split at ht
    · rename_i f hf
      simp only [Bool.and_eq_true, beq_iff_eq] at ht
      obtain ⟨ws, rfl, hl, h1, hv⟩ := agg_inv hu
      obtain ⟨v, h2, h3⟩ := part_val (w := w) (tyIs ht.2) hp hl h1 hv
      exact ⟨v, by simp [Instr.field, run_underlying hund, hf, asAgg, ht.1, h2], h3⟩
    · simp at ht
  · simp at ht

theorem ixa_sim {t : TypeId} {m sz : Nat} {ag : Bool} (ht : arrOK C.P t m sz ag = true) {k : IntKind} {i : Int} (h0 : 0 ≤ i) (hm : i < m) {cs : List AV} {z : AV} (hp : part sz ag cs (i.toNat * sz) = some z) {u j : Value}
    (hu : VR C g (.agg cs) u) (hj : VR C g (.int k i) j) : ∃ v, (Instr.index t u j).run C.P w = .ok v w ∧ VR C g z v := by
  unfold arrOK at ht
  split at ht
  · rename_i m' e hund
    simp only [Bool.and_eq_true, beq_iff_eq] at ht
    obtain ⟨rfl, ht⟩ := ht
    have hty := tyIs ht
    obtain ⟨ws, rfl, hl, h1, hv⟩ := agg_inv hu
    cases hj
    obtain ⟨v, h2, h3⟩ := part_val (w := w) hty hp hl h1 hv
    exact ⟨v, by simp [Instr.index, asIntOf, run_underlying hund, h0, hm, hty.run_size, h2], h3⟩
  · simp at ht

theorem str_inv {s : List UInt8} {v : Value} (h : VR C g (.str s) v) : ∃ b : ByteArray, v = .string b ∧ b.data.toList = s := by
  generalize hq : AV.str s = q at h
  cases h <;> try (simp at hq; done)
  simp at hq
  exact ⟨_, rfl, hq.symm⟩

theorem ixs_sim {t : TypeId} (ht : C.P.underlying t = some .string) {k : IntKind} {i : Int} (h0 : 0 ≤ i) {s : List UInt8} {b : UInt8} (hb : s[i.toNat]? = some b) {u j : Value}
    (hu : VR C g (.str s) u) (hj : VR C g (.int k i) j) : ∃ v, (Instr.index t u j).run C.P w = .ok v w ∧ VR C g (.int .u8 b.toNat) v := by
  obtain ⟨bs, rfl, hs⟩ := str_inv hu
  cases hj
  have hg : bs[i.toNat]? = some b := by
    rw [← hs] at hb
    have hlt := (List.getElem?_eq_some_iff.1 hb).1
    have hlt' : i.toNat < bs.size := by rw [Array.length_toList] at hlt; exact hlt
    rw [List.getElem?_eq_getElem hlt] at hb
    rw [getElem?_pos bs i.toNat hlt', ← hb]
    rfl
  exact ⟨_, by simp [Instr.index, asIntOf, run_underlying ht, h0, hg], .int _ _⟩

end
end Ey

namespace Ey
open Go Go.RowKit

def isConstO : Operand → Bool
  | .const _ => true
  | _ => false

def eqTyOK (P : Program) (k : EqK) (t : TypeId) (y : Operand) : Bool :=
  match k, P.underlying t with
  | .bool, some .bool => true
  | .ptr, some (.pointer _) => true
  | .slice, some (.slice _) => true
  | .fn, some (.func ..) => true
  | .iface, some (.interface _) => isConstO y
  | .map, some (.map ..) => true
  | _, _ => false

section
variable {C : Cx} {g : Gh} {own : Own} {B : Nat} {H : Heap} {w : World} {env : Env} {a : Act} {n : Nat} {L : List Nat}

theorem equal_run {t : TypeId} {u v : Value} {b : Bool} (h : ∀ d, (Op.equalIn (d + 1) t u v).run C.P w = .ok b w) : (Op.equal t u v).run C.P w = .ok b w := h 9999

theorem eq_of_equal {u v : Value} {t : TypeId} {x y : Operand} {r : Bool} (hg : ∀ op, (eqGuard op t x y u v).run C.P w = .ok () w) (he : (Op.equal t u v).run C.P w = .ok r w)
    (h1 : Go.binOp .eql t u v = (do pure (.bool (← Op.equal t u v)))) (h2 : Go.binOp .neq t u v = (do pure (.bool (!(← Op.equal t u v))))) (neg : Bool) :
    (do eqGuard (if neg then .neq else .eql) t x y u v; Go.binOp (if neg then .neq else .eql) t u v : Sem Value).run C.P w = .ok (.bool (r != neg)) w := by
  cases neg
  · simp only [Bool.false_eq_true, if_false, Sem.run_bind, hg, Result.andThen_ok, h1, he, Sem.run_pure, Bool.bne_false]
  · simp only [if_true, Sem.run_bind, hg, Result.andThen_ok, h2, he, Sem.run_pure, Bool.bne_true]

theorem iface_nil {t : TypeId} {x y : Operand} {ms : Array (String × TypeId)} (hu : C.P.underlying t = some (.interface ms)) (hy : isConstO y = true) (neg : Bool) :
    (do eqGuard (if neg then .neq else .eql) t x y .nilIface .nilIface; Go.binOp (if neg then .neq else .eql) t .nilIface .nilIface : Sem Value).run C.P w = .ok (.bool (true != neg)) w := by
  cases y <;> try (simp [isConstO] at hy; done)
  exact eq_of_equal (fun op => by cases op <;> simp [eqGuard]) (equal_run (fun d => by simp [Op.equalIn, run_underlying hu])) rfl rfl neg

set_option maxHeartbeats 1000000 in
theorem eq_sim {k : EqK} {p q : AV} {r : Bool} (hz : eqAV k p q = some r) {u v : Value} (hp : VR C g p u) (hq : VR C g q v) {t : TypeId} {x y : Operand} (ht : eqTyOK C.P k t y = true) (neg : Bool) :
    (do eqGuard (if neg then .neq else .eql) t x y u v; Go.binOp (if neg then .neq else .eql) t u v : Sem Value).run C.P w = .ok (.bool (r != neg)) w := by
  unfold eqTyOK at ht
  split at ht <;> rename_i hu
  case h_7 => simp at ht
  all_goals
    unfold eqAV at hz
    split at hz <;> (first | (simp at hz; done) | skip) <;> (first | (rename_i hk; cases hk; done) | skip)
  all_goals
    simp only [Option.some.injEq] at hz
    first | subst hz | skip
    cases hp <;> cases hq
  all_goals first
    | exact iface_nil hu ht neg
    | exact eq_of_equal (fun op => by cases op <;> simp [eqGuard]) (equal_run (fun d => by simp [Op.equalIn, run_underlying hu])) rfl rfl neg
end
end Ey

namespace Ey
open Go Go.RowKit

section
variable {C : Cx} {g : Gh} {own : Own} {B : Nat} {H : Heap} {w : World} {env : Env} {a : Act} {n : Nat} {L : List Nat}

theorem bound_run {x : Value} {y : Nat} {c : BoundsCode} {k : IntKind} {i : Int} (hx : x = .int k i) (h0 : 0 ≤ i) (hi : i ≤ y) : (Instr.sliceBound x y c).run C.P w = .ok i.toNat w := by
  subst hx
  simp [Instr.sliceBound, asIntOf, h0, hi]

def OptR (C : Cx) (g : Gh) : Option AV → Option Value → Prop
  | none, none => True
  | some x, some v => VR C g x v
  | _, _ => False

theorem getI_inv {x : AV} {v : Value} {i : Int} (h : VR C g x v) (hi : getI x = some i) : ∃ k, v = .int k i := by
  unfold getI at hi
  split at hi
  · simp at hi; subst hi; cases h; exact ⟨_, rfl⟩
  · simp at hi

theorem bounds_run {len cap : Nat} {lo hi : Option AV} {vl vh : Option Value} {l h : Nat} (hb : slBounds len lo hi = some (l, h)) (hl : OptR C g lo vl) (hh : OptR C g hi vh) (hc : len ≤ cap) (s : Bool) :
    (Instr.sliceBounds s len cap vl vh none).run C.P w = .ok (l, h, cap) w ∧ l ≤ h ∧ h ≤ len := by
  unfold slBounds at hb
  split at hb
  · simp at hb
  · rename_i q hq
    split at hb
    · simp at hb
    · rename_i p hp
      split at hb
      · rename_i hx
        obtain ⟨h1, h2, h3⟩ := hx
        simp at hb
        obtain ⟨rfl, rfl⟩ := hb
        refine ⟨?_, by omega, by omega⟩
        have e1 : (vh = none ∧ q = len) ∨ ∃ k, vh = some (.int k q) := by
          cases hi with
          | none => cases vh with
            | none => simp at hq; exact .inl ⟨rfl, hq.symm⟩
            | some v => simp [OptR] at hh
          | some x => cases vh with
            | none => simp [OptR] at hh
            | some v =>
              obtain ⟨k, rfl⟩ := getI_inv hh hq
              exact .inr ⟨k, rfl⟩
        have e2 : (vl = none ∧ p = 0) ∨ ∃ k, vl = some (.int k p) := by
          cases lo with
          | none => cases vl with
            | none => simp at hp; exact .inl ⟨rfl, hp.symm⟩
            | some v => simp [OptR] at hl
          | some x => cases vl with
            | none => simp [OptR] at hl
            | some v =>
              obtain ⟨k, rfl⟩ := getI_inv hl hp
              exact .inr ⟨k, rfl⟩
        have q0 : 0 ≤ q := by omega
        have qc : q ≤ (cap : Int) := by omega
        have pq : p ≤ max q 0 := by omega
        rcases e1 with ⟨rfl, rfl⟩ | ⟨k, rfl⟩ <;> rcases e2 with ⟨rfl, rfl⟩ | ⟨k', rfl⟩ <;> simp [Instr.sliceBounds, Instr.sliceBound, asIntOf, h1, h2, q0, qc, pq]
      · simp at hb

theorem sl_sim (hS : St C g own B H w) {t : TypeId} {sz : Nat} (ht : slcOK C.P t sz = true) {x z : AV} {lo hi mx : Option AV} {vx : Value} {vl vh vm : Option Value} (hz : slAV H sz x lo hi mx = some z)
    (hx : VR C g x vx) (hl : OptR C g lo vl) (hh : OptR C g hi vh) (hm : OptR C g mx vm) : ∃ v, (Instr.slice t vx vl vh vm).run C.P w = .ok v w ∧ VR C g z v := by
  obtain ⟨e, ie, hu, hie, hsz, hpos⟩ := slc_is ht
  have hsize : (Go.sizeOf e).run C.P w = .ok sz w := by simp [Go.sizeOf, typeInfo, hie, hsz]
  unfold slAV at hz
  split at hz
  · rename_i m
    cases vm with
    | none => simp [OptR] at hm
    | some um =>
      split at hz
      · rename_i nl xs
        simp only [OptR] at hm
        cases hm
        cases vl with
        | some _ => simp [OptR] at hl
        | none =>
          cases vh with
          | none => simp [OptR] at hh
          | some uh =>
            simp only [OptR] at hh
            cases hh
            cases hx with
            | nil =>
              simp at hz; subst hz
              exact ⟨_, by simp [Instr.slice, run_underlying hu, Instr.sliceBounds, Instr.sliceBound, asIntOf, hsize], .nil⟩
            | list _ b o cap sz' f hc hs hne hG hv =>
              simp at hz; subst hz
              exact ⟨_, by simp [Instr.slice, run_underlying hu, Instr.sliceBounds, Instr.sliceBound, asIntOf, hsize]; rfl, .cap0 _⟩
      · simp only [OptR] at hm
        cases hm
        cases vl with
        | some _ => simp [OptR] at hl
        | none =>
          cases vh with
          | none => simp [OptR] at hh
          | some uh =>
            simp only [OptR] at hh
            cases hh
            cases hx with | cap0 ad =>
            simp at hz; subst hz
            exact ⟨_, by simp [Instr.slice, run_underlying hu, Instr.sliceBounds, Instr.sliceBound, asIntOf, hsize], .cap0 ad⟩
      · simp at hz
  · cases vm with
    | some _ => simp [OptR] at hm
    | none =>
      split at hz
      · rename_i nl xs
        split at hz
        · rename_i hall
          simp only [Option.map_eq_some_iff] at hz
          obtain ⟨⟨l, h⟩, hb, rfl⟩ := hz
          simp only
          cases hx with
          | nil =>
            obtain ⟨h1, h2, h3⟩ := bounds_run (w := w) (cap := 0) hb hl hh (by simp) true
            obtain rfl : h = 0 := by simpa using h3
            obtain rfl : l = 0 := by omega
            simp only [List.length_nil] at h1
            exact ⟨_, by simp [Instr.slice, run_underlying hu, h1, hsize]; rfl, by simpa using VR.nil⟩
          | list _ b o cap sz' f hc hs hne hG hv =>
            obtain ⟨h1, h2, h3⟩ := bounds_run (w := w) hb hl hh hc true
            have hlen : ((xs.drop l).take (h - l)).length = h - l := by simp; omega
            have hget : ∀ (i : Nat) (x : AV), ((xs.drop l).take (h - l))[i]? = some x → xs[l + i]? = some x ∧ i < h - l := by
              intro i x hx
              have hi : i < h - l := by
                have := (List.getElem?_eq_some_iff.1 hx).1
                omega
              rw [List.getElem?_take, if_pos hi, List.getElem?_drop] at hx
              exact ⟨hx, hi⟩
            by_cases hcl : cap = l
            · subst hcl
              obtain rfl : h = cap := by omega
              refine ⟨.slice (some ⟨b, o, none⟩) 0 0, by simp [Instr.slice, run_underlying hu, h1, hsize], ?_⟩
              have hnil : (xs.drop h).take (h - h) = [] := by simp
              rw [hnil]
              exact .list [] b o 0 0 f (by simp) (fun i x hx => by simp at hx) (fun i x hx => by simp at hx) (fun i j hi => by simp at hi) (fun i j x y hx => by simp at hx)
            · refine ⟨.slice (some ⟨b, o + l * sz, none⟩) (h - l) (cap - l), by simp [Instr.slice, run_underlying hu, h1, hsize, hcl, add_at], ?_⟩
              by_cases h0 : h - l = 0
              · have hnil : (xs.drop l).take (h - l) = [] := by rw [h0]; simp
                rw [hnil, h0]
                exact .list [] b _ _ 0 f (by simp) (fun i x hx => by simp at hx) (fun i x hx => by simp at hx) (fun i j hi => by simp at hi) (fun i j x y hx => by simp at hx)
              · have hszz : sz' = sz := by
                  have hlt : l < xs.length := by omega
                  have h4 := (hs l _ (List.getElem?_eq_getElem hlt)).1
                  have h5 := List.all_eq_true.1 hall _ (List.getElem_mem hlt)
                  simp at h5
                  omega
                subst hszz
                have key := VR.list (C := C) (g := g) ((xs.drop l).take (h - l)) b (o + l * sz') (cap - l) sz' (fun i j => f (l + i) j) (by omega)
                  (fun i x hx => hs _ _ (hget i x hx).1) (fun i x hx => hne _ _ (hget i x hx).1) (fun i j hi hj => by
                    rw [hlen] at hi
                    have := hG (l + i) j (by omega) hj
                    rwa [show o + (l + i) * sz' + j = o + l * sz' + i * sz' + j by rw [Nat.add_mul]; omega] at this)
                  (fun i j x y hx hy => hv _ _ _ _ (hget i x hx).1 hy)
                rwa [hlen] at key
        · simp at hz
      · simp only [Option.map_eq_some_iff] at hz
        obtain ⟨⟨l, h⟩, hb, rfl⟩ := hz
        cases hx with
        | cap0 ad =>
          obtain ⟨h1, h2, h3⟩ := bounds_run (w := w) (cap := 0) hb hl hh (by simp) true
          obtain rfl : h = 0 := by omega
          obtain rfl : l = 0 := by omega
          exact ⟨_, by simp [Instr.slice, run_underlying hu, h1, hsize], .cap0 ad⟩
      · rename_i id ver lo' len
        split at hz
        · rename_i nl z' xs hg
          split at hz
          · rename_i hzz
            simp only [Option.map_eq_some_iff] at hz
            obtain ⟨⟨l, h⟩, hb, rfl⟩ := hz
            simp only
            obtain ⟨_, hall⟩ := hS.arr _ _ _ _ hg
            cases hx with
            | msNil _ sz' hh' =>
              obtain ⟨h1, h2, h3⟩ := bounds_run (w := w) (cap := 0) hb hl hh (by simp) true
              obtain rfl : h = 0 := by omega
              obtain rfl : l = 0 := by omega
              exact ⟨_, by simp [Instr.slice, run_underlying hu, h1, hsize], .msNil _ _ hh'⟩
            | ms _ _ _ _ b o cap sz' ad hh' hlc ha =>
              have hsz' : sz' = sz := (hall _ _ hh').1.trans hzz
              subst hsz'
              obtain ⟨h1, h2, h3⟩ := bounds_run (w := w) (cap := cap - lo') hb hl hh (by omega) true
              by_cases hcl : cap - lo' = l
              · subst hcl
                refine ⟨.slice (some ad) (h - (cap - lo')) (cap - lo' - (cap - lo')), by simp [Instr.slice, run_underlying hu, h1, hsize], ?_⟩
                rw [Nat.sub_sub]
                exact .ms id ver _ _ b o cap sz' _ hh' (by omega) ⟨ha.1, .inl (by omega)⟩
              · have had : ad = ⟨b, o + lo' * sz', none⟩ := ha.2.resolve_left (by omega)
                subst had
                refine ⟨.slice (some ⟨b, o + lo' * sz' + l * sz', none⟩) (h - l) (cap - lo' - l), by simp [Instr.slice, run_underlying hu, h1, hsize, hcl, add_at], ?_⟩
                rw [Nat.sub_sub]
                exact .ms id ver _ _ b o cap sz' _ hh' (by omega) ⟨rfl, .inr (by rw [Nat.add_mul, Nat.add_assoc])⟩
          · simp at hz
        · simp at hz
      · simp at hz
end
end Ey

namespace Ey
open Go Go.RowKit

section
variable {C : Cx} {g : Gh} {own : Own} {B : Nat} {H : Heap} {w : World} {env : Env} {a : Act} {n : Nat} {L : List Nat}

theorem len_sim {t : TypeId} {e : TypeId} (ht : C.P.underlying t = some (.slice e)) {x : AV} {k : Nat} (hz : lenAV x = some k) {v : Value} (hx : VR C g x v) (ty : TypeId) :
    (Builtin.len_ #[t] ty #[v]).run C.P w = .ok (.int .i64 k) w := by
  unfold lenAV at hz
  split at hz
  · simp at hz; subst hz
    cases hx <;> simp [Builtin.len_, run_underlying ht, goInt]
  · simp at hz; subst hz
    cases hx; simp [Builtin.len_, run_underlying ht, goInt]
  · simp at hz; subst hz
    cases hx <;> simp [Builtin.len_, run_underlying ht, goInt]
  · simp at hz

theorem lns_sim {t : TypeId} (ht : C.P.underlying t = some .string) {s : List UInt8} {v : Value} (hx : VR C g (.str s) v) (ty : TypeId) :
    (Builtin.len_ #[t] ty #[v]).run C.P w = .ok (.int .i64 s.length) w := by
  obtain ⟨b, rfl, rfl⟩ := str_inv hx
  have : (b.data.toList.length : Int) = (b.size : Int) := congrArg _ Array.length_toList
  rw [this]
  simp [Builtin.len_, run_underlying ht, goInt]

theorem ss_sim {t : TypeId} (ht : C.P.underlying t = some .string) {s : List UInt8} {lo hi : Option AV} {l h : Nat} (hz : slBounds s.length lo hi = some (l, h)) {v : Value} {vl vh : Option Value}
    (hx : VR C g (.str s) v) (hl : OptR C g lo vl) (hh : OptR C g hi vh) : ∃ r, (Instr.slice t v vl vh none).run C.P w = .ok r w ∧ VR C g (.str ((s.drop l).take (h - l))) r := by
  obtain ⟨b, rfl, rfl⟩ := str_inv hx
  have hs : b.data.toList.length = b.size := Array.length_toList
  obtain ⟨h1, h2, h3⟩ := bounds_run (w := w) (cap := b.size) hz hl hh (by omega) false
  rw [hs] at h1
  refine ⟨.string (b.extract l h), by simp [Instr.slice, run_underlying ht, h1], ?_⟩
  have : (b.data.toList.drop l).take (h - l) = (b.extract l h).data.toList := by
    simp [ByteArray.data_extract, Array.toList_extract, List.extract_eq_take_drop]
  rw [this]
  exact .str _

theorem ext_sim {vs : List AV} {i : Nat} {x : AV} (hx : vs[i]? = some x) {v : Value} (hv : VR C g (.tup vs) v) : ∃ r, (Instr.extract v i).run C.P w = .ok r w ∧ VR C g x r := by
  cases hv with
  | tup _ ws hl hr =>
    have hlt : i < ws.size := by
      have := (List.getElem?_eq_some_iff.1 hx).1
      omega
    exact ⟨ws[i], by simp [Instr.extract, hlt], hr i x _ hx (by simp [hlt])⟩

def concOK (P : Program) (t : TypeId) : Bool :=
  match P.underlying t with
  | some (.interface _) => false
  | some _ => true
  | none => false

theorem conc_is {P : Program} {t : TypeId} (h : concOK P t = true) : ∃ d, P.underlying t = some d ∧ ∀ ms, d ≠ .interface ms := by
  unfold concOK at h
  split at h
  · simp at h
  · rename_i d _ hd; exact ⟨d, hd, fun ms e => by subst e; simp_all⟩
  · simp at h

theorem mkif_sim {t : TypeId} {tag : Nat} (ht : concOK C.P t = true) (hm : C.tm tag = some t) {x : AV} {v : Value} (hx : VR C g x v) :
    ∃ r, (Instr.makeInterface t v).run C.P w = .ok r w ∧ VR C g (.iface tag x) r := by
  obtain ⟨d, hd, hn⟩ := conc_is ht
  refine ⟨.iface t v, ?_, .iface tag x t v hm hx⟩
  simp only [Instr.makeInterface, Sem.run_bind, run_underlying hd, Result.andThen_ok]
  cases d <;> first | rfl | exact absurd rfl (hn _)

def zeroOK (P : Program) (t : TypeId) (z : AV) : Bool :=
  match P.info? t with
  | some i => match i.zero with
    | some v => cv v z
    | none => false
  | none => false

theorem zero_run {t : TypeId} {z : AV} (h : zeroOK C.P t z = true) (g : Gh) (w : World) : ∃ v, (zeroValue t).run C.P w = .ok v w ∧ VR C g z v := by
  unfold zeroOK at h
  split at h
  · rename_i i hi
    split at h
    · rename_i v hv
      exact ⟨v, by simp [zeroValue, typeInfo, hi, hv], cv_rel h⟩
    · simp at h
  · simp at h

theorem tas_sim {xt t : TypeId} {tag : Nat} {z : AV} {ok : Bool} (ht : concOK C.P t = true) (hm : C.tm tag = some t) (hzero : ok = true → zeroOK C.P t z = true) {x : AV} {r : AV}
    (hz : (match x with
      | .iface t' v => if t' = tag then some (if ok then .tup [v, .bool true] else v) else if ok then some (.tup [z, .bool false]) else none
      | .niliface => if ok then some (.tup [z, .bool false]) else none
      | _ => none) = some r) {v : Value} (hx : VR C g x v) : ∃ u, (Instr.typeAssert v xt t ok).run C.P w = .ok u w ∧ VR C g r u := by
  obtain ⟨d, hd, hn⟩ := conc_is ht
  have pair : ∀ {p q : AV} {u u' : Value}, VR C g p u → VR C g q u' → VR C g (.tup [p, q]) (.tuple #[u, u']) := by
    intro p q u u' h1 h2
    refine .tup _ _ rfl (fun i x y hx hy => ?_)
    match i with
    | 0 => simp at hx hy; subst hx; subst hy; exact h1
    | 1 => simp at hx hy; subst hx; subst hy; exact h2
    | i + 2 => simp at hx
  split at hz
  · rename_i t' v'
    cases hx with
    | iface _ _ tid u htid hv =>
      split at hz
      · rename_i he
        subst he
        simp at hz; subst hz
        obtain rfl : tid = t := by rw [hm] at htid; simpa using htid.symm
        cases ok
        · refine ⟨u, ?_, hv⟩
          simp only [Instr.typeAssert, Sem.run_bind, run_underlying hd, Result.andThen_ok]
          cases d <;> first | (simp; done) | exact absurd rfl (hn _)
        · refine ⟨.tuple #[u, .bool true], ?_, pair hv (.bool _)⟩
          simp only [Instr.typeAssert, Sem.run_bind, run_underlying hd, Result.andThen_ok]
          cases d <;> first | (simp; done) | exact absurd rfl (hn _)
      · rename_i he
        split at hz
        · rename_i hok
          subst hok
          simp at hz; subst hz
          obtain ⟨zv, h1, h2⟩ := zero_run (hzero rfl) g w
          have hne : tid ≠ t := fun e => he (C.inj _ _ t (e ▸ htid) hm)
          refine ⟨.tuple #[zv, .bool false], ?_, pair h2 (.bool _)⟩
          simp only [Instr.typeAssert, Sem.run_bind, run_underlying hd, Result.andThen_ok]
          cases d <;> first | (simp [hne, h1]; done) | exact absurd rfl (hn _)
        · simp at hz
  · cases hx
    split at hz
    · rename_i hok
      subst hok
      simp at hz; subst hz
      obtain ⟨zv, h1, h2⟩ := zero_run (hzero rfl) g w
      refine ⟨.tuple #[zv, .bool false], ?_, pair h2 (.bool _)⟩
      simp only [Instr.typeAssert, Sem.run_bind, run_underlying hd, Result.andThen_ok]
      cases d <;> first | (simp [h1]; done) | exact absurd rfl (hn _)
    · simp at hz
  · simp at hz

theorem mnmx_sim {mx : Bool} {k : IntKind} {p q : Int} {u v : Value} (hu : VR C g (.int k p) u) (hv : VR C g (.int k q) v) (ts : Array TypeId) (t : TypeId) :
    ((if mx then Builtin.max_ ts t #[u, v] else Builtin.min_ ts t #[u, v])).run C.P w = .ok (.int k (if mx then max p q else min p q)) w := by
  cases hu; cases hv
  cases mx
  · simp only [Bool.false_eq_true, if_false, Builtin.min_, List.foldlM, Builtin.min2, Sem.run_bind, Sem.run_pure, Result.andThen_ok]
    congr 2
    split <;> omega
  · simp only [if_true, Builtin.max_, List.foldlM, Builtin.max2, Sem.run_bind, Sem.run_pure, Result.andThen_ok]
    congr 2
    split <;> omega

theorem mnmx3_sim {mx : Bool} {p q r : Int} {u v x : Value} (hu : VR C g (.int .i64 p) u) (hv : VR C g (.int .i64 q) v) (hx : VR C g (.int .i64 r) x) (ts : Array TypeId) (t : TypeId) :
    ((if mx then Builtin.max_ ts t #[u, v, x] else Builtin.min_ ts t #[u, v, x])).run C.P w = .ok (.int .i64 (if mx then max (max p q) r else min (min p q) r)) w := by
  cases hu; cases hv; cases hx
  cases mx
  · simp only [Bool.false_eq_true, if_false, Builtin.min_, List.foldlM, Builtin.min2, Sem.run_bind, Sem.run_pure, Result.andThen_ok]
    congr 2
    split <;> split <;> omega
  · simp only [if_true, Builtin.max_, List.foldlM, Builtin.max2, Sem.run_bind, Sem.run_pure, Result.andThen_ok]
    congr 2
    split <;> split <;> omega
theorem nat3 {mx : Bool} {vs : List AV} {z : AV} (h : natAV (if mx then 6 else 5) vs = some z) : ∃ p q r : Int, vs = [.int .i64 p, .int .i64 q, .int .i64 r] ∧ z = .int .i64 (if mx then max (max p q) r else min (min p q) r) := by
  cases mx
  · simp only [Bool.false_eq_true, if_false] at h ⊢
    unfold natAV at h
    split at h <;> first
      | (rename_i he; exact absurd he (by decide))
      | (simp only [Option.some.injEq] at h; subst h; exact ⟨_, _, _, rfl, rfl⟩)
      | cases h
  · simp only [if_true] at h ⊢
    unfold natAV at h
    split at h <;> first
      | (rename_i he; exact absurd he (by decide))
      | (simp only [Option.some.injEq] at h; subst h; exact ⟨_, _, _, rfl, rfl⟩)
      | cases h

theorem all_rel (hF : Fr C g own w env a.tmps n L) : ∀ {xs : List Operand} {ys : List Opd}, opdsOK C xs ys = true → ∀ {vs : List AV}, allAV env ys = some vs →
    vs.length = xs.length ∧ ∀ (i : Nat) (x : AV) (y : Value), vs[i]? = some x → (xs.map a.eval)[i]? = some y → VR C g x y
  | [], [], _, vs, hv => by simp [allAV] at hv; subst hv; exact ⟨rfl, fun i x y hx => by simp at hx⟩
  | [], _ :: _, h, _, _ => by simp [opdsOK] at h
  | _ :: _, [], h, _, _ => by simp [opdsOK] at h
  | x :: xs, y :: ys, h, vs, hv => by
    simp only [opdsOK, Bool.and_eq_true] at h
    simp only [allAV] at hv
    split at hv
    · simp at hv
    · rename_i v h1
      simp only [Option.map_eq_some_iff] at hv
      obtain ⟨us, h2, rfl⟩ := hv
      obtain ⟨h3, h4⟩ := all_rel hF h.2 h2
      refine ⟨by simp [h3], fun i p q hp hq => ?_⟩
      cases i with
      | zero => simp at hp hq; subst hp; subst hq; exact av_rel hF h.1 h1
      | succ i => exact h4 i p q (by simpa using hp) (by simpa using hq)

theorem opt_rel (hF : Fr C g own w env a.tmps n L) {x : Option Operand} {y : Option Opd} (h : optOK C x y = true) {z : Option AV} (hz : optAV env y = some z) : OptR C g z (x.map a.eval) := by
  cases x <;> cases y <;> simp [optOK] at h
  · simp [optAV] at hz; subst hz; trivial
  · rename_i o o'
    simp only [optAV, Option.map_eq_some_iff] at hz
    obtain ⟨q, hq, rfl⟩ := hz
    exact av_rel hF h hq

theorem bytes_run {xs : List AV} {s : List UInt8} (h : xs.mapM byteOf = some s) : ∀ (ws : List Value) (acc : ByteArray), xs.length = ws.length →
    (∀ (i : Nat) (x : AV) (y : Value), xs[i]? = some x → ws[i]? = some y → VR C g x y) →
    (forIn ws acc (fun c r => do
      let .int .u8 n := c | stuck "bytesToString: byte expected"
      pure (.yield (r.push (UInt8.ofNat n.toNat))) : Value → ByteArray → Sem (ForInStep ByteArray))).run C.P w = .ok ⟨(acc.data.toList ++ s).toArray⟩ w := by
  induction xs generalizing s with
  | nil =>
    intro ws acc hl _
    cases ws with
    | nil => simp at h; subst h; simp
    | cons _ _ => simp at hl
  | cons x xs ih =>
    intro ws acc hl hr
    cases ws with
    | nil => simp at hl
    | cons v ws =>
      simp only [List.mapM_cons, Option.bind_eq_bind, Option.bind_eq_some_iff] at h
      obtain ⟨b, hb, r, hr', hs⟩ := h
      simp at hs; subst hs
      have hx := hr 0 x v rfl rfl
      unfold byteOf at hb
      split at hb
      · rename_i m
        split at hb
        · simp at hb; subst hb
          cases hx
          have := ih hr' ws (acc.push (UInt8.ofNat m.toNat)) (by simpa using hl) (fun i x y hx hy => hr (i + 1) x y (by simpa using hx) (by simpa using hy))
          simp only [List.forIn_cons, Sem.run_bind, Sem.run_pure, Result.andThen_ok]
          rw [this]
          simp
        · simp at hb
      · simp at hb

end
end Ey

namespace Ey
open Go Go.RowKit

theorem byte_beq (a b : UInt8) : Nat.beq a.toNat b.toNat = (a == b) := by
  rw [Bool.eq_iff_iff]
  simp [UInt8.toNat_inj]

theorem cntB_eq (c : UInt8) : ∀ s : List UInt8, cntB c s = Lib.countByte s c
  | [] => rfl
  | x :: s => by
    simp only [cntB, byte_beq, cntB_eq c s, Lib.countByte, List.count_cons]
    split <;> simp

theorem idxB_eq (c : UInt8) : ∀ (s : List UInt8) (i : Nat), idxB c i s = if Lib.indexByte s c = -1 then -1 else (i : Int) + Lib.indexByte s c
  | [], i => by simp [idxB, Lib.indexByte]
  | x :: s, i => by
    have hge := Lib.indexByte_ge s c
    simp only [idxB, byte_beq, idxB_eq c s (i + 1), Lib.indexByte]
    split
    · simp
    · by_cases h : Lib.indexByte s c = -1
      · simp [h]
      · simp only [h, beq_iff_eq, if_false]
        rw [if_neg (by omega)]
        omega

def natName : Nat → String
  | 0 => "internal/bytealg.CountString"
  | 1 => "internal/bytealg.IndexByteString"
  | 2 => "math.Float64bits"
  | 3 => "math.Float64frombits"
  | _ => ""

def natFn (P : Program) (fid : FuncId) (k : Nat) : Bool :=
  match P.funcs[fid]? with
  | some fn => fn.body.isNone && fn.name == natName k && fn.origin == "" && decide (k < 4)
  | none => false

theorem find_row {fn : Func} {nm : String} {e : Array Value → Sem Value} (hn : fn.name = nm) (ho : fn.origin = "") (h1 : Extern.allNextRows.lookup nm = none) (h2 : Extern.allNextRows.lookup "" = none) (h3 : Extern.allGenericRows.lookup nm = none)
    (h4 : Extern.allTypedRows.lookup nm = none) (h5 : Extern.allRows.lookup nm = some e) : Extern.findNext fn = none ∧ Extern.find fn = some e := by
  unfold Extern.findNext Extern.find
  rw [hn, ho]
  simp only [h1, h2, h3, h4, h5]
  exact ⟨rfl, rfl⟩

section
variable {C : Cx} {g : Gh}

theorem nat_sim {fid : FuncId} {k : Nat} (hf : natFn C.P fid k = true) {vs : List AV} {z : AV} (hz : natAV k vs = some z) {ws : List Value} (hl : vs.length = ws.length) (hv : ∀ (i : Nat) (x : AV) (y : Value), vs[i]? = some x → ws[i]? = some y → VR C g x y) (w : World) :
    ∃ v, (callFunc fid ws.toArray).run C.P w = .ok (.value v) w ∧ VR C g z v := by
  unfold natFn at hf
  split at hf
  · rename_i fn hfn
    simp only [Bool.and_eq_true, beq_iff_eq, decide_eq_true_eq] at hf
    obtain ⟨⟨⟨hb, hn⟩, ho⟩, hk4⟩ := hf
    have hx : (fn.name == "runtime.NumGoroutine") = false → ∀ e, Extern.findNext fn = none ∧ Extern.find fn = some e → (callFunc fid ws.toArray).run C.P w = ((e ws.toArray).run C.P w).andThen fun v w' => .ok (.value v) w' := fun h1 e h =>
      run_callFunc_extern hfn h1 hb h.1 h.2 _ _
    have h0 : Extern.allNextRows.lookup "" = none := by kernel_rfl
    unfold natAV at hz
    split at hz
    · rename_i s c
      simp only [Option.some.injEq] at hz
      subst hz
      match ws, hl with
      | [u, v], _ =>
        have hu := hv 0 _ _ rfl rfl
        have hv' := hv 1 _ _ rfl rfl
        cases hu with
        | str b =>
        cases hv'
        refine ⟨_, ?_, .int _ _⟩
        rw [hx (by rw [hn]; rfl) _ (find_row hn ho (by kernel_rfl) h0 (by kernel_rfl) (by kernel_rfl) (e := Extern.BytealgCount.count) (by kernel_rfl)), Lib.run_countString]
        simp only [Result.andThen, cntB_eq]
    · rename_i s c
      simp only [Option.some.injEq] at hz
      subst hz
      match ws, hl with
      | [u, v], _ =>
        have hu := hv 0 _ _ rfl rfl
        have hv' := hv 1 _ _ rfl rfl
        cases hu with
        | str b =>
        cases hv'
        refine ⟨_, ?_, .int _ _⟩
        rw [hx (by rw [hn]; rfl) _ (find_row hn ho (by kernel_rfl) h0 (by kernel_rfl) (by kernel_rfl) (e := Extern.BytealgIndexByte.indexByte) (by kernel_rfl)), Lib.run_indexByteString]
        simp only [Result.andThen, idxB_eq]
        congr 3
        split
        · rename_i h; exact h
        · simp
    · rename_i b
      simp only [Option.some.injEq] at hz
      subst hz
      match ws, hl with
      | [u], _ =>
        have hu := hv 0 _ _ rfl rfl
        cases hu
        refine ⟨_, ?_, .int _ _⟩
        rw [hx (by rw [hn]; rfl) _ (find_row hn ho (by kernel_rfl) h0 (by kernel_rfl) (by kernel_rfl) (e := Extern.MathFloatBits.float64bits) (by kernel_rfl))]
        rfl
    · rename_i n
      simp only [Option.some.injEq] at hz
      subst hz
      match ws, hl with
      | [u], _ =>
        have hu := hv 0 _ _ rfl rfl
        cases hu
        refine ⟨_, ?_, .flt _ _⟩
        rw [hx (by rw [hn]; rfl) _ (find_row hn ho (by kernel_rfl) h0 (by kernel_rfl) (by kernel_rfl) (e := Extern.MathFloatBits.float64frombits) (by kernel_rfl))]
        rfl
    · exact absurd hk4 (by decide)
    · exact absurd hk4 (by decide)
    · exact absurd hk4 (by decide)
    · cases hz
  · cases hf
end
end Ey

namespace Ey
open Go Go.RowKit

theorem foldl_put (off : Nat) : ∀ (vs : List Value) (k : Nat) (cs : Array Value), off + k + vs.length ≤ cs.size →
    ((vs.zipIdx k).foldl (fun (cs : Array Value) (p : Value × Nat) => cs.setIfInBounds (off + p.2) p.1) cs).toList = cs.toList.take (off + k) ++ vs ++ cs.toList.drop (off + k + vs.length)
  | [], k, cs, _ => by simp
  | v :: vs, k, cs, h => by
    simp only [List.length_cons] at h
    have hlt : off + k < cs.size := by omega
    rw [List.zipIdx_cons, List.foldl_cons, foldl_put off vs (k + 1) _ (by simp; omega)]
    simp only [Array.toList_setIfInBounds, List.length_cons]
    have e : off + (k + 1) = off + k + 1 := by omega
    rw [e]
    have hl : off + k < cs.toList.length := by simpa using hlt
    rw [List.take_set, List.drop_set, if_pos (by omega), List.take_succ_eq_append_getElem hl]
    rw [List.set_append_right _ _ (by simp; omega)]
    simp [Nat.min_eq_left (Nat.le_of_lt hlt)]
    omega

inductive PartsR (C : Cx) (g : Gh) (place : Nat → Option (Nat × Nat)) : List (Nat × Value) → List ((Nat × Nat) × AV) → Prop
  | nil : PartsR C g place [] []
  | cons (i : Nat) (v : Value) (off sz : Nat) (x : AV) (vs xs) (hp : place i = some (off, sz)) (h0 : 0 < sz) (hr : VR C g x v) (h : PartsR C g place vs xs) :
      PartsR C g place ((i, v) :: vs) (((off, sz), x) :: xs)

theorem CR.put {C : Cx} {g : Gh} {cs ds : List AV} {ws us : List Value} (h : CR C g cs ws) (k : CR C g ds us) (off : Nat) (hl : off + ds.length ≤ cs.length) :
    CR C g (putAt cs off ds) (ws.take off ++ us ++ ws.drop (off + us.length)) := by
  have e1 := h.len
  have e2 := k.len
  refine ⟨by simp [putAt]; omega, fun c hc => ?_, fun i x y hx hy => ?_⟩
  · simp only [putAt, List.mem_append] at hc
    rcases hc with (hc | hc) | hc
    · exact h.one c (List.mem_of_mem_take hc)
    · exact k.one c hc
    · exact h.one c (List.mem_of_mem_drop hc)
  · simp only [putAt] at hx
    rw [List.append_assoc] at hx hy
    by_cases h1 : i < off
    · rw [List.getElem?_append_left (by simp; omega), List.getElem?_take, if_pos h1] at hx hy
      exact h.rel i x y hx hy
    · rw [List.getElem?_append_right (by simp; omega)] at hx hy
      simp only [List.length_take] at hx hy
      rw [Nat.min_eq_left (by omega)] at hx hy
      by_cases h2 : i - off < ds.length
      · rw [List.getElem?_append_left h2] at hx
        rw [List.getElem?_append_left (by omega)] at hy
        exact k.rel _ x y hx hy
      · rw [List.getElem?_append_right (by omega), List.getElem?_drop] at hx hy
        rw [← e2] at hy
        exact h.rel _ x y hx hy

theorem fill_rel {C : Cx} {g : Gh} {place : Nat → Option (Nat × Nat)} {ps : List (Nat × Value)} {qs : List ((Nat × Nat) × AV)} (h : PartsR C g place ps qs) :
    ∀ {cs r : List AV} {ws : Array Value}, CR C g cs ws.toList → fillAV cs qs = some r → ∃ rs, Instr.fill place ws ps = some rs ∧ CR C g r rs.toList := by
  induction h with
  | nil => intro cs r ws hc hf; simp [fillAV] at hf; subst hf; exact ⟨ws, rfl, hc⟩
  | cons i v off sz x vs xs hp h0 hr _ ih =>
    intro cs r ws hc hf
    simp only [fillAV] at hf
    split at hf
    · rename_i hle
      have hk := VR.cells hr (.inl (by intro e; rw [e] at hle; simp at hle; omega))
      have hlen := hc.len
      have hlk := hk.len
      have hput := hc.put hk off (by omega)
      have hsz : v.cells.size = sz := by have := hlk; simp at this; omega
      have hfold : (v.cells.zipIdx.foldl (fun cs (c, j) => cs.setIfInBounds (off + j) c) ws).toList = ws.toList.take off ++ v.cells.toList ++ ws.toList.drop (off + v.cells.toList.length) := by
        rw [← Array.foldl_toList, Array.toList_zipIdx]
        have := foldl_put off v.cells.toList 0 ws (by simp at hlen ⊢; omega)
        simpa using this
      rw [← hfold] at hput
      obtain ⟨rs, h1, h2⟩ := ih hput hf
      refine ⟨rs, ?_, h2⟩
      have hn : ¬ (v.cells.size ≠ sz ∨ off + v.cells.size > ws.size) := by simp at hlen; omega
      simp only [Instr.fill, hp]
      rw [if_neg (by simpa using hn)]
      exact h1
    · simp at hf

def placesOf (P : Program) (t : TypeId) : Nat → Option (Nat × Nat) :=
  match P.underlying t with
  | some (.array _ e) => match P.info? e with
    | some ie => fun i => some (i * ie.size, ie.size)
    | none => fun _ => none
  | some (.struct fields) => match fields.toList.mapM (fun f => (P.info? f.type).map fun i => (f.offset, i.size)) with
    | some places => (places.toArray[·]?)
    | none => fun _ => none
  | _ => fun _ => none

def builtOK (P : Program) (t : TypeId) : Bool :=
  match P.underlying t with
  | some (.array _ e) => (P.info? e).isSome
  | some (.struct fields) => (fields.toList.mapM (fun f => (P.info? f.type).map fun i => (f.offset, i.size))).isSome
  | _ => false

def partsOK (C : Cx) (place : Nat → Option (Nat × Nat)) : List (Nat × Operand) → List ((Nat × Nat) × Opd) → Bool
  | [], [] => true
  | (i, x) :: xs, ((off, sz), y) :: ys => place i == some (off, sz) && decide (0 < sz) && opdOK C x y && partsOK C place xs ys
  | _, _ => false

section
variable {C : Cx} {g : Gh} {own : Own} {B : Nat} {H : Heap} {w : World} {env : Env} {a : Act} {n : Nat} {L : List Nat}

theorem parts_rel (hF : Fr C g own w env a.tmps n L) {place : Nat → Option (Nat × Nat)} : ∀ {xs : List (Nat × Operand)} {ys : List ((Nat × Nat) × Opd)}, partsOK C place xs ys = true → ∀ {qs : List ((Nat × Nat) × AV)}, allParts env ys = some qs →
    PartsR C g place (xs.map fun (i, x) => (i, a.eval x)) qs
  | [], [], _, qs, hq => by simp [allParts] at hq; subst hq; exact .nil
  | [], _ :: _, h, _, _ => by simp [partsOK] at h
  | (_, _) :: _, [], h, _, _ => by simp [partsOK] at h
  | (i, x) :: xs, ((off, sz), y) :: ys, h, qs, hq => by
    simp only [partsOK, Bool.and_eq_true, beq_iff_eq, decide_eq_true_eq] at h
    simp only [allParts] at hq
    split at hq
    · simp at hq
    · rename_i v hv
      simp only [Option.map_eq_some_iff] at hq
      obtain ⟨us, hu, rfl⟩ := hq
      exact .cons i _ off sz v _ _ h.1.1.1 h.1.1.2 (av_rel hF h.1.2 hv) (parts_rel hF h.2 hu)

theorem bld_sim {t : TypeId} {z : AV} (hz : zeroOK C.P t z = true) (hb : builtOK C.P t = true) {ps : List (Nat × Value)} {qs : List ((Nat × Nat) × AV)} (hp : PartsR C g (placesOf C.P t) ps qs) (hag : ∃ cs, z = .agg cs)
    {r : List AV} (hf : fillAV z.cells qs = some r) : ∃ v, (Instr.build t ps.toArray).run C.P w = .ok v w ∧ VR C g (.agg r) v := by
  unfold zeroOK at hz
  split at hz
  · rename_i i hi
    split at hz
    · rename_i zv hzv
      have h1 := VR.cells (cv_rel (C := C) (g := g) hz) (.inr hag)
      obtain ⟨rs, h2, h3⟩ := fill_rel hp h1 hf
      refine ⟨.agg rs, run_build w t _ rs ?_, .agg _ _ (by simpa using h3.len) h3.one (fun i x y hx hy => h3.rel i x y hx (by simpa using hy))⟩
      unfold Program.built
      rw [hi]
      unfold builtOK at hb
      unfold placesOf at h2
      split at hb
      · rename_i m e hu
        rw [hu] at h2 ⊢
        cases he : C.P.info? e with
        | none => simp [he] at hb
        | some ie => simp only [he] at h2; simpa [hzv, he] using h2
      · rename_i fs hu
        rw [hu] at h2 ⊢
        cases he : fs.toList.mapM (fun f => (C.P.info? f.type).map fun i => (f.offset, i.size)) with
        | none => simp [he] at hb
        | some places => simp only [he] at h2; simpa [hzv, he] using h2
      · simp at hb
    · simp at hz
  · simp at hz

def flat (xs : List AV) : List AV := xs.flatMap AV.cells

theorem flat_len {sz : Nat} : ∀ {xs : List AV}, (∀ x ∈ xs, x.cells.length = sz) → (flat xs).length = xs.length * sz
  | [], _ => by simp [flat]
  | x :: xs, h => by
    have := flat_len (xs := xs) (fun y hy => h y (by simp [hy]))
    simp only [flat, List.flatMap_cons, List.length_append, List.length_cons] at this ⊢
    rw [h x (by simp), this, Nat.add_mul, Nat.one_mul, Nat.add_comm]

theorem flat_get {sz : Nat} : ∀ {xs : List AV}, (∀ x ∈ xs, x.cells.length = sz) → ∀ {i j : Nat} {x : AV}, xs[i]? = some x → j < sz → (flat xs)[i * sz + j]? = x.cells[j]?
  | [], _, i, j, x, hx, _ => by simp at hx
  | y :: xs, h, i, j, x, hx, hj => by
    have hy := h y (by simp)
    cases i with
    | zero =>
      simp at hx; subst hx
      simp only [flat, List.flatMap_cons, Nat.zero_mul, Nat.zero_add]
      rw [List.getElem?_append_left (by omega)]
    | succ i =>
      have := flat_get (xs := xs) (fun z hz => h z (by simp [hz])) (i := i) (by simpa using hx) hj
      simp only [flat, List.flatMap_cons] at this ⊢
      rw [List.getElem?_append_right (by rw [Nat.add_mul]; omega)]
      rw [← this]
      congr 1
      rw [Nat.add_mul]
      omega

theorem flat_set {sz : Nat} : ∀ {xs : List AV}, (∀ x ∈ xs, x.cells.length = sz) → ∀ {i : Nat} {v : AV}, i < xs.length → v.cells.length = sz → flat (xs.set i v) = putAt (flat xs) (i * sz) v.cells
  | [], _, i, v, hi, _ => by simp at hi
  | y :: xs, h, i, v, hi, hv => by
    have hy := h y (by simp)
    cases i with
    | zero => 
      simp only [flat, List.set_cons_zero, List.flatMap_cons, putAt, Nat.zero_mul, List.take_zero, List.nil_append, Nat.zero_add, hv]
      rw [List.drop_append, hy]
      simp [← hy]
    | succ i =>
      have := flat_set (xs := xs) (fun z hz => h z (by simp [hz])) (i := i) (v := v) (by simpa using hi) hv
      simp only [flat, List.set_cons_succ, List.flatMap_cons, putAt] at this ⊢
      rw [this]
      have e : (i + 1) * sz = sz + i * sz := by rw [Nat.add_mul]; omega
      rw [e, List.take_append, List.drop_append, List.take_of_length_le (l := y.cells) (by omega), List.drop_of_length_le (l := y.cells) (by omega)]
      simp [← hy, Nat.add_assoc]
end
end Ey

namespace Ey
open Go Go.RowKit

structure New (w w' : World) : Prop where
  os : w'.os = w.os
  tape : w'.tape = w.tape
  output : w'.output = w.output
  size : w'.heap.size = w.heap.size + 1
  old : ∀ b, b < w.heap.size → w'.heap[b]? = w.heap[b]?

theorem New.alloc (w : World) (o : Obj) : New w (w.alloc o) := ⟨rfl, rfl, rfl, by simp, fun b hb => heap_alloc_old w o b hb⟩
theorem New.drew_alloc (w : World) (o : Obj) : New w (w.drew.alloc o) := ⟨rfl, rfl, rfl, by simp, fun b hb => heap_alloc_old w.drew o b hb⟩
theorem New.cell {w w' : World} (h : New w w') {b o : Nat} (hb : b < w.heap.size) : w'.cell? ⟨b, o, none⟩ = w.cell? ⟨b, o, none⟩ := World.cell?_of_block (w := w) (h.old b hb)
theorem New.frozen {w w' : World} (h : New w w') {b o : Nat} (hb : b < w.heap.size) : w'.frozen? ⟨b, o, none⟩ = w.frozen? ⟨b, o, none⟩ := World.frozen?_of_block (w := w) (h.old b hb)
theorem New.below {w w' : World} (h : New w w') {B : Nat} (hB : B ≤ w.heap.size) : Below B w w' :=
  ⟨h.os, h.tape, h.output, by have := h.size; omega, fun k hk => h.old k (by omega)⟩

def Gh.grow (g : Gh) (nb : Nat) (Gn : Nat → Option Value) : Gh := { g with G := fun b o => if b = nb then Gn o else g.G b o }
def growOwn (own : Own) (nb : Nat) (no : Nat → Owner) : Own := fun b o => if b = nb then no o else own b o

section
variable {C : Cx} {g : Gh} {own : Own} {B : Nat} {H : Heap} {w w' : World} {env : Env} {tmps : Array Value} {n : Nat} {L : List Nat}

theorem St.lt (hS : St C g own B H w) {b o : Nat} (h : own b o ≠ .free) : b < w.heap.size := (hS.ext b o).resolve_left h

theorem St.fresh (hS : St C g own B H w) (o : Nat) : own w.heap.size o = .free := by
  rcases hS.ext w.heap.size o with h | h
  · exact h
  · omega

theorem St.G_none (hS : St C g own B H w) (o : Nat) : g.G w.heap.size o = none := by
  cases h : g.G w.heap.size o with
  | none => rfl
  | some v =>
    have := (hS.imm _ _ _ h).1
    rw [hS.fresh] at this
    cases this

theorem Gh.le_grow (hS : St C g own B H w) (Gn : Nat → Option Value) : g.Le (g.grow w.heap.size Gn) where
  G := fun b o v h => by
    simp only [Gh.grow]
    by_cases hb : b = w.heap.size
    · subst hb; rw [hS.G_none] at h; cases h
    · rw [if_neg hb]; exact h
  ob := fun _ _ h => h
  ar := fun _ _ _ h => h

theorem growOwn_old (hS : St C g own B H w) (no : Nat → Owner) {b o : Nat} (h : own b o ≠ .free) : growOwn own w.heap.size no b o = own b o := by
  have := hS.lt h
  simp only [growOwn]
  rw [if_neg (by omega)]

theorem cells_grow (hS : St C g own B H w) (hN : New w w') (Gn : Nat → Option Value) (no : Nat → Owner) {ow : Owner} (how : ow ≠ .free) {b o : Nat} {cs : List AV} (h : CellsAt C g own w ow b o cs) :
    CellsAt C (g.grow w.heap.size Gn) (growOwn own w.heap.size no) w' ow b o cs := by
  refine ⟨h.1, fun j y hy => ?_⟩
  obtain ⟨h1, v, h2, h3, h4⟩ := h.2 j y hy
  have hlt : b < w.heap.size := hS.lt (o := o + j) (by rw [h1]; exact how)
  exact ⟨by rw [growOwn_old hS no (by rw [h1]; exact how)]; exact h1, v, by rw [hN.cell hlt]; exact h2, by rw [hN.frozen hlt]; exact h3, h4.mono (Gh.le_grow hS Gn)⟩

theorem arr_grow (hS : St C g own B H w) (hN : New w w') (Gn : Nat → Option Value) (no : Nat → Owner) {id : Nat} {nl : Bool} {sz : Nat} {xs : List AV} {ph : Ph} (h : ArrAt C g own w id nl sz xs ph) :
    ArrAt C (g.grow w.heap.size Gn) (growOwn own w.heap.size no) w' id nl sz xs ph := by
  obtain ⟨h1, h2⟩ := h
  refine ⟨h1, ?_⟩
  cases hb : ph.base with
  | none => rw [hb] at h2; exact h2
  | some p =>
    obtain ⟨b, o⟩ := p
    rw [hb] at h2
    obtain ⟨k1, k2, k3, k4, k5⟩ := h2
    refine ⟨k1, k2, k3, fun k hk => ?_, fun i x j y hx hy => ?_⟩
    · obtain ⟨m1, v, m2, m3, m4⟩ := k4 k hk
      have hlt : b < w.heap.size := hS.lt (o := o + k) (by rw [m1]; simp)
      exact ⟨by rw [growOwn_old hS no (by rw [m1]; simp)]; exact m1, v, by rw [hN.cell hlt]; exact m2, by rw [hN.frozen hlt]; exact m3, m4⟩
    · obtain ⟨v, m1, m2⟩ := k5 i x j y hx hy
      have hi : i < xs.length := (List.getElem?_eq_some_iff.1 hx).1
      have hj : j < sz := by
        have := (List.getElem?_eq_some_iff.1 hy).1
        have := (k3 i x hx).1
        omega
      have hk : i * sz + j < ph.cap * sz := by
        have : (i + 1) * sz ≤ ph.cap * sz := Nat.mul_le_mul_right _ (by omega)
        rw [Nat.add_mul] at this
        omega
      have hlt : b < w.heap.size := hS.lt (o := o + (i * sz + j)) (by rw [(k4 _ hk).1]; simp)
      exact ⟨v, by rw [hN.cell hlt]; exact m1, m2.mono (Gh.le_grow hS Gn)⟩

theorem St.grow (hS : St C g own B H w) (hN : New w w') (Gn : Nat → Option Value) (no : Nat → Owner)
    (hn : ∀ o v, Gn o = some v → no o = .imm ∧ w'.cell? ⟨w.heap.size, o, none⟩ = some v) : St C (g.grow w.heap.size Gn) (growOwn own w.heap.size no) B H w' where
  imm := fun b o v h => by
    simp only [Gh.grow, growOwn] at h ⊢
    by_cases hb : b = w.heap.size
    · subst hb
      rw [if_pos rfl] at h ⊢
      exact hn o v h
    · rw [if_neg hb] at h ⊢
      obtain ⟨h1, h2⟩ := hS.imm b o v h
      exact ⟨h1, by rw [hN.cell (hS.lt (o := o) (by rw [h1]; simp))]; exact h2⟩
  obj := fun id cs h => by
    obtain ⟨b, o, h1, h2⟩ := hS.obj id cs h
    exact ⟨b, o, h1, cells_grow hS hN Gn no (by simp) h2⟩
  arr := fun id nl sz xs h => by
    obtain ⟨⟨ph, h1, h2⟩, h3⟩ := hS.arr id nl sz xs h
    exact ⟨⟨ph, h1, arr_grow hS hN Gn no h2⟩, h3⟩
  mp := fun id es h => (hS.mp id es h).step (Gh.le_grow hS Gn) (fun b hb => by rw [growOwn_old hS no (by rw [hb]; simp)]; exact hb) fun b ms c hb hm => by
    rw [hN.old b (hS.lt (o := 0) (by rw [hb]; simp))]; exact hm
  next := hS.next
  ext := fun b o => by
    simp only [growOwn]
    by_cases hb : b = w.heap.size
    · exact .inr (by have := hN.size; omega)
    · rw [if_neg hb]
      rcases hS.ext b o with h | h
      · exact .inl h
      · exact .inr (by have := hN.size; omega)
  base := fun b o => by
    simp only [growOwn]
    by_cases hb : b = w.heap.size
    · intro _; have := hS.size; omega
    · rw [if_neg hb]; exact hS.base b o
  size := by have := hN.size; have := hS.size; omega
  ro := hS.ro
  gl := fun b o v h => (Gh.le_grow hS Gn).G b o v (hS.gl b o v h)

theorem Ext.grow (hS : St C g own B H w) (hN : New w w') (Gn : Nat → Option Value) (no : Nat → Owner) : Ext g own B H w (g.grow w.heap.size Gn) (growOwn own w.heap.size no) H w' where
  le := Gh.le_grow hS Gn
  ob := fun _ _ => rfl
  ar := fun _ _ _ => rfl
  get := fun _ _ => rfl
  ro := rfl
  next := Nat.le_refl _
  fr := fun b o h => by
    have hlt := hS.lt (o := o) (b := b) (by rw [h]; simp)
    exact ⟨by rw [growOwn_old hS no (by rw [h]; simp)]; exact h, hN.cell hlt, hN.frozen hlt⟩
  below := hN.below hS.size
  frm := fun b ms c h hm => by rw [hN.old b (hS.lt (o := 0) (b := b) (by rw [h]; simp))]; exact hm

theorem Fr.grow (hS : St C g own B H w) (hN : New w w') (Gn : Nat → Option Value) (no : Nat → Owner) (hF : Fr C g own w env tmps n L) :
    Fr C (g.grow w.heap.size Gn) (growOwn own w.heap.size no) w' env tmps n L where
  size := hF.size
  lvs := hF.lvs
  gl := fun b o v h => (Gh.le_grow hS Gn).G b o v (hF.gl b o v h)
  slots := fun s => by
    have h := hF.slots s
    simp only [SlotOK] at h ⊢
    cases he : env.get s with
    | no => simp
    | un => rw [he] at h; exact h
    | v x => rw [he] at h; exact h.mono (Gh.le_grow hS Gn)
    | lv cs =>
      rw [he] at h
      obtain ⟨b, o, h1, h2⟩ := h
      exact ⟨b, o, h1, cells_grow hS hN Gn no (by simp) h2⟩
    | lp s' off => rw [he] at h; exact h

theorem SlR.mono {C : Cx} {g g' : Gh} (h : g.Le g') {env : Env} {tm : Nat → Value} {x : Sl} {v : Value} (r : SlR C g env tm x v) : SlR C g' env tm x v := by
  cases x with
  | v y => exact VR.mono h r
  | no => trivial
  | un => exact r
  | lv cs => trivial
  | lp s off => exact r

theorem tmOf_set {tmps : Array Value} {d s : Nat} {v : Value} (hd : d < tmps.size) : tmOf (tmps.setIfInBounds d v) s = if s = d then v else tmOf tmps s := by
  unfold tmOf
  simp only [Array.getD_eq_getD_getElem?, Array.getElem?_setIfInBounds]
  by_cases h : d = s
  · subst h; simp [hd]
  · rw [if_neg h, if_neg (fun e => h e.symm)]

def Sl.plain : Sl → Bool
  | .v _ => true
  | .lp _ _ => true
  | .un => true
  | _ => false

theorem Fr.set (hF : Fr C g own w env tmps n L) {d : Nat} (hd : d < n) (hL : d ∉ L) {x : Sl} {v : Value} (hx : SlR C g env (tmOf tmps) x v) (hp : x.plain = true) :
    Fr C g own w ((d, x) :: env) (tmps.setIfInBounds d v) n L := by
  have hsz : d < tmps.size := by rw [hF.size]; exact hd
  have hnl : ∀ cs, env.get d ≠ .lv cs := fun cs h => hL (hF.lvs d cs h)
  have hget : ∀ s, Env.get ((d, x) :: env) s = if s = d then x else env.get s := fun s => rfl
  refine ⟨by simp [hF.size], fun s => ?_, fun s cs h => ?_, hF.gl⟩
  · simp only [SlotOK, hget, tmOf_set hsz]
    by_cases hs : s = d
    · subst hs
      rw [if_pos rfl, if_pos rfl]
      cases x with
      | no => trivial
      | un => exact hx
      | v y => exact hx
      | lv cs => simp [Sl.plain] at hp
      | lp s' off =>
        obtain ⟨cs, b, o, h1, h2, h3⟩ := hx
        have hne : s' ≠ s := fun e => hnl cs (e ▸ h1)
        exact ⟨cs, b, o, by rw [if_neg hne]; exact h1, by rw [if_neg hne]; exact h2, h3⟩
    · rw [if_neg hs, if_neg hs]
      have h := hF.slots s
      simp only [SlotOK] at h
      cases he : env.get s with
      | no => trivial
      | un => rw [he] at h; exact h
      | v y => rw [he] at h; exact h
      | lv cs => rw [he] at h; exact h
      | lp s' off =>
        rw [he] at h
        obtain ⟨cs, b, o, h1, h2, h3⟩ := h
        have hne : s' ≠ d := fun e => hnl cs (e ▸ h1)
        exact ⟨cs, b, o, by rw [if_neg hne]; exact h1, by rw [if_neg hne]; exact h2, h3⟩
  · rw [hget] at h
    by_cases hs : s = d
    · rw [if_pos hs] at h; subst h; simp [Sl.plain] at hp
    · rw [if_neg hs] at h; exact hF.lvs s cs h

theorem Fr.setLv (hS : St C g own B H w) (hN : New w w') (hF : Fr C g own w env tmps n L) {d : Nat} (hd : d < n) (hL : d ∈ L) (hnl : ∀ cs, env.get d ≠ .lv cs) {cs : List AV} {vs : List Value}
    (hcs : CR C g cs vs) (hv : ∀ j v, vs[j]? = some v → w'.cell? ⟨w.heap.size, j, none⟩ = some v ∧ w'.frozen? ⟨w.heap.size, j, none⟩ = false) :
    Fr C (g.grow w.heap.size fun _ => none) (growOwn own w.heap.size fun _ => .slot d) w' ((d, .lv cs) :: env) (tmps.setIfInBounds d (.pointer (some ⟨w.heap.size, 0, none⟩))) n L := by
  have hsz : d < tmps.size := by rw [hF.size]; exact hd
  have hget : ∀ s, Env.get ((d, .lv cs) :: env) s = if s = d then .lv cs else env.get s := fun s => rfl
  have hG := hF.grow hS hN (fun _ => none) (fun _ => .slot d)
  refine ⟨by simp [hF.size], fun s => ?_, fun s cs' h => ?_, hG.gl⟩
  · simp only [SlotOK, hget, tmOf_set hsz]
    by_cases hs : s = d
    · subst hs
      rw [if_pos rfl, if_pos rfl]
      refine ⟨w.heap.size, 0, rfl, hcs.one, fun j y hy => ?_⟩
      have hj := (List.getElem?_eq_some_iff.1 hy).1
      have hj' : j < vs.length := by have := hcs.len; omega
      obtain ⟨h1, h2⟩ := hv j _ (List.getElem?_eq_getElem hj')
      refine ⟨by simp [growOwn], vs[j], by rw [Nat.zero_add]; exact h1, by rw [Nat.zero_add]; exact h2, ?_⟩
      exact (hcs.rel j y _ hy (List.getElem?_eq_getElem hj')).mono (Gh.le_grow hS _)
    · rw [if_neg hs, if_neg hs]
      have h := hG.slots s
      simp only [SlotOK] at h
      cases he : env.get s with
      | no => trivial
      | un => rw [he] at h; exact h
      | v y => rw [he] at h; exact h
      | lv cs => rw [he] at h; exact h
      | lp s' off =>
        rw [he] at h
        obtain ⟨cs', b, o, h1, h2, h3⟩ := h
        have hne : s' ≠ d := fun e => hnl cs' (e ▸ h1)
        exact ⟨cs', b, o, by rw [if_neg hne]; exact h1, by rw [if_neg hne]; exact h2, h3⟩
  · rw [hget] at h
    by_cases hs : s = d
    · exact hs ▸ hL
    · rw [if_neg hs] at h; exact hF.lvs s cs' h

end
end Ey

namespace Ey
open Go Go.RowKit

def BlkR (C : Cx) (g : Gh) (own : Own) (w : World) (id : Nat) : Blk → Prop
  | .obj cs => ∃ b o, g.ob id = some (b, o) ∧ CellsAt C g own w (.heap id) b o cs
  | .arr nl sz xs => (∃ ph, g.ar id xs.length = some ph ∧ ArrAt C g own w id nl sz xs ph) ∧ ∀ n ph, g.ar id n = some ph → ph.sz = sz ∧ n ≤ xs.length
  | .map es => MapAt C g own w id es

structure Chg (C : Cx) (g : Gh) (own : Own) (B : Nat) (H : Heap) (w : World) (g' : Gh) (own' : Own) (H' : Heap) (w' : World) (id0 : Nat) : Prop where
  le : g.Le g'
  keep : ∀ b o, own b o ≠ .free → own b o ≠ .heap id0 → own' b o = own b o ∧ w'.cell? ⟨b, o, none⟩ = w.cell? ⟨b, o, none⟩ ∧ w'.frozen? ⟨b, o, none⟩ = w.frozen? ⟨b, o, none⟩
  maps : ∀ (b : Nat) (es : Array MapEntry) (c : Nat), own b 0 ≠ .free → own b 0 ≠ .heap id0 → w.heap[b]? = some (Obj.map es c) → w'.heap[b]? = some (Obj.map es c)
  G : ∀ b o v, g'.G b o = some v → own' b o = .imm ∧ w'.cell? ⟨b, o, none⟩ = some v
  ob : ∀ id, id ≠ id0 → g'.ob id = g.ob id
  ob0 : id0 < H.next → g'.ob id0 = g.ob id0
  ar : ∀ id, id ≠ id0 → ∀ n, g'.ar id n = g.ar id n
  get : ∀ id, id ≠ id0 → H'.get id = H.get id
  new : ∀ bl, H'.get id0 = some bl → BlkR C g' own' w' id0 bl
  ro : H'.ro = H.ro
  next : H.next ≤ H'.next
  lt : id0 < H'.next
  ge : H.ro ≤ id0
  ext : ∀ b o, own' b o = .free ∨ b < w'.heap.size
  base : ∀ b o, (∃ x, own' b o = .heap x ∨ own' b o = .slot x) → B ≤ b
  below : Below B w w'

section
variable {C : Cx} {g g' : Gh} {own own' : Own} {B : Nat} {H H' : Heap} {w w' : World} {env : Env} {tmps : Array Value} {n id0 : Nat} {L : List Nat}

theorem Chg.cells (h : Chg C g own B H w g' own' H' w' id0) {ow : Owner} (h0 : ow ≠ .free) (h1 : ow ≠ .heap id0) {b o : Nat} {cs : List AV} (hc : CellsAt C g own w ow b o cs) : CellsAt C g' own' w' ow b o cs := by
  refine ⟨hc.1, fun j y hy => ?_⟩
  obtain ⟨k1, v, k2, k3, k4⟩ := hc.2 j y hy
  obtain ⟨m1, m2, m3⟩ := h.keep b (o + j) (by rw [k1]; exact h0) (by rw [k1]; exact h1)
  exact ⟨by rw [m1]; exact k1, v, by rw [m2]; exact k2, by rw [m3]; exact k3, k4.mono h.le⟩

theorem idx_lt {i j sz n c : Nat} (hi : i < n) (hn : n ≤ c) (hj : j < sz) : i * sz + j < c * sz := by
  have : (i + 1) * sz ≤ c * sz := Nat.mul_le_mul_right _ (by omega)
  rw [Nat.add_mul] at this
  omega

theorem Chg.arrAt (h : Chg C g own B H w g' own' H' w' id0) {id : Nat} (hid : id ≠ id0) {nl : Bool} {sz : Nat} {xs : List AV} {ph : Ph} (hc : ArrAt C g own w id nl sz xs ph) : ArrAt C g' own' w' id nl sz xs ph := by
  obtain ⟨h1, h2⟩ := hc
  refine ⟨h1, ?_⟩
  cases hb : ph.base with
  | none => rw [hb] at h2; exact h2
  | some p =>
    obtain ⟨b, o⟩ := p
    rw [hb] at h2
    obtain ⟨k1, k2, k3, k4, k5⟩ := h2
    have hk : ∀ k, k < ph.cap * sz → own' b (o + k) = own b (o + k) ∧ w'.cell? ⟨b, o + k, none⟩ = w.cell? ⟨b, o + k, none⟩ ∧ w'.frozen? ⟨b, o + k, none⟩ = w.frozen? ⟨b, o + k, none⟩ := fun k hk =>
      h.keep b (o + k) (by rw [(k4 k hk).1]; simp) (by rw [(k4 k hk).1]; simpa using hid)
    refine ⟨k1, k2, k3, fun k hlt => ?_, fun i x j y hx hy => ?_⟩
    · obtain ⟨m1, v, m2, m3, m4⟩ := k4 k hlt
      obtain ⟨p1, p2, p3⟩ := hk k hlt
      exact ⟨by rw [p1]; exact m1, v, by rw [p2]; exact m2, by rw [p3]; exact m3, m4⟩
    · obtain ⟨v, m1, m2⟩ := k5 i x j y hx hy
      have hi : i < xs.length := (List.getElem?_eq_some_iff.1 hx).1
      have hj : j < sz := by
        have := (List.getElem?_eq_some_iff.1 hy).1
        have := (k3 i x hx).1
        omega
      obtain ⟨p1, p2, p3⟩ := hk (i * sz + j) (idx_lt hi k2 hj)
      refine ⟨v, ?_, m2.mono h.le⟩
      rw [Nat.add_assoc] at m1 ⊢
      rw [p2]; exact m1

theorem Chg.st (hS : St C g own B H w) (h : Chg C g own B H w g' own' H' w' id0) : St C g' own' B H' w' where
  imm := h.G
  obj := fun id cs hg => by
    by_cases hid : id = id0
    · subst hid; exact h.new _ hg
    · rw [h.get id hid] at hg
      obtain ⟨b, o, h1, h2⟩ := hS.obj id cs hg
      exact ⟨b, o, by rw [h.ob id hid]; exact h1, h.cells (by simp) (by simpa using hid) h2⟩
  arr := fun id nl sz xs hg => by
    by_cases hid : id = id0
    · subst hid; exact h.new _ hg
    · rw [h.get id hid] at hg
      obtain ⟨⟨ph, h1, h2⟩, h3⟩ := hS.arr id nl sz xs hg
      exact ⟨⟨ph, by rw [h.ar id hid]; exact h1, h.arrAt hid h2⟩, fun n ph hh => by rw [h.ar id hid] at hh; exact h3 n ph hh⟩
  mp := fun id es hg => by
    by_cases hid : id = id0
    · subst hid; exact h.new _ hg
    · rw [h.get id hid] at hg
      exact (hS.mp id es hg).step h.le (fun b hb => (h.keep b 0 (by rw [hb]; simp) (by rw [hb]; simpa using hid)).1.trans hb) fun b ms c hb hm => h.maps b ms c (by rw [hb]; simp) (by rw [hb]; simpa using hid) hm
  next := fun id hid => by
    have hne : id ≠ id0 := by have := h.lt; omega
    have := h.next
    obtain ⟨h1, h2, h3⟩ := hS.next id (by omega)
    exact ⟨by rw [h.get id hne]; exact h1, by rw [h.ob id hne]; exact h2, fun n => by rw [h.ar id hne]; exact h3 n⟩
  ext := h.ext
  base := h.base
  size := by have := hS.size; have := h.below.size; omega
  ro := by have := hS.ro; have := h.ro; have := h.next; omega
  gl := fun b o v hv => h.le.G b o v (hS.gl b o v hv)

theorem Chg.fr (hF : Fr C g own w env tmps n L) (h : Chg C g own B H w g' own' H' w' id0) : Fr C g' own' w' env tmps n L where
  size := hF.size
  lvs := hF.lvs
  gl := fun b o v hv => h.le.G b o v (hF.gl b o v hv)
  slots := fun s => by
    have k := hF.slots s
    simp only [SlotOK] at k ⊢
    cases he : env.get s with
    | no => trivial
    | un => rw [he] at k; exact k
    | v x => rw [he] at k; exact k.mono h.le
    | lv cs =>
      rw [he] at k
      obtain ⟨b, o, h1, h2⟩ := k
      exact ⟨b, o, h1, h.cells (by simp) (by simp) h2⟩
    | lp s' off => rw [he] at k; exact k

theorem Chg.toExt (h : Chg C g own B H w g' own' H' w' id0) : Ext g own B H w g' own' H' w' where
  le := h.le
  ob := fun id hid => by
    by_cases e : id = id0
    · subst e; exact h.ob0 hid
    · exact h.ob id e
  ar := fun id hid n => h.ar id (by have := h.ge; omega) n
  get := fun id hid => h.get id (by have := h.ge; omega)
  ro := h.ro
  next := h.next
  fr := fun b o hb => by
    obtain ⟨h1, h2, h3⟩ := h.keep b o (by rw [hb]; simp) (by rw [hb]; simp)
    exact ⟨by rw [h1]; exact hb, h2, h3⟩
  below := h.below
  frm := fun b ms c hb hm => h.maps b ms c (by rw [hb]; simp) (by rw [hb]; simp) hm

structure Wr (w w' : World) (b o : Nat) (vs : List Value) : Prop where
  inn : ∀ j v, vs[j]? = some v → w'.cell? ⟨b, o + j, none⟩ = some v
  out : ∀ b' o', ¬ (b' = b ∧ o ≤ o' ∧ o' < o + vs.length) → w'.cell? ⟨b', o', none⟩ = w.cell? ⟨b', o', none⟩
  frozen : ∀ x, w'.frozen? x = w.frozen? x
  size : w'.heap.size = w.heap.size
  below : ∀ B, B ≤ b → Below B w w'
  maps : ∀ (k : Nat) (es : Array MapEntry) (c : Nat), w.heap[k]? = some (Obj.map es c) → w'.heap[k]? = some (Obj.map es c)

theorem size_setCells (b : Nat) : ∀ (vs : List Value) (o : Nat) (w : World), (w.setCells b o vs).heap.size = w.heap.size
  | [], _, _ => rfl
  | v :: r, o, w => by rw [World.setCells, size_setCells b r]; simp

theorem map_setCells (b : Nat) : ∀ (vs : List Value) (o : Nat) (w : World) {k : Nat} {ms : Array MapEntry} {c : Nat}, w.heap[k]? = some (Obj.map ms c) → (w.setCells b o vs).heap[k]? = some (Obj.map ms c)
  | [], _, _, _, _, _, h => h
  | v :: r, o, w, k, ms, c, h => by rw [World.setCells]; exact map_setCells b r (o + 1) _ (map_setCell h)

theorem below_setCells (B b : Nat) (hb : B ≤ b) : ∀ (vs : List Value) (o : Nat) (w : World), Below B w (w.setCells b o vs)
  | [], _, w => .refl _ _
  | v :: r, o, w => by
    rw [World.setCells]
    exact ((Below.refl B w).setCell (p := ⟨b, o, none⟩) hb v).trans (below_setCells B b hb r (o + 1) _)

theorem Wr.mk' {w : World} {b o : Nat} {vs : List Value} (hc : ∀ j, j < vs.length → (w.cell? ⟨b, o + j, none⟩).isSome = true) : Wr w (w.setCells b o vs) b o vs where
  inn := fun j v hv => by
    have hj := (List.getElem?_eq_some_iff.1 hv).1
    rw [World.cell?_setCells_in b vs o w hc j hj]
    rw [List.getElem?_eq_getElem hj] at hv
    exact hv
  out := fun b' o' h => World.cell?_setCells_out b vs o w ⟨b', o', none⟩ (fun h1 _ => by
    simp only at h1 ⊢
    by_cases h2 : o' < o
    · exact .inl h2
    · exact .inr (Nat.le_of_not_lt fun h3 => h ⟨h1, by omega, h3⟩))
  frozen := fun x => World.frozen?_setCells b vs o w x
  size := size_setCells b vs o w
  below := fun B hB => below_setCells B b hB vs o w
  maps := fun _ _ _ h => map_setCells b vs o w h

theorem run_storeVar_at {P : Program} {t : TypeId} {sz : Nat} (ht : (Go.sizeOf t).run P w = .ok sz w) {b o : Nat} {v : Value} (hl : v.cells.size = sz) (h1 : ∀ u ∈ v.cells.toList, u.oneCell' = true)
    (hc : ∀ j, j < sz → ∃ u, w.cell? ⟨b, o + j, none⟩ = some u ∧ w.frozen? ⟨b, o + j, none⟩ = false) :
    (storeVar t ⟨b, o, none⟩ v).run P w = .ok () (w.setCells b o v.cells.toList) ∧ Wr w (w.setCells b o v.cells.toList) b o v.cells.toList := by
  have hc' : ∀ j, j < v.cells.toList.length → (w.cell? ⟨b, o + j, none⟩).isSome = true := fun j hj => by
    obtain ⟨u, hu, _⟩ := hc j (by simpa [hl] using hj)
    rw [hu]; rfl
  refine ⟨?_, Wr.mk' hc'⟩
  have hst := run_storeCells_cells (P := P) b o v.cells.toList 0 w (fun j hj => by simpa using hc' j hj) (fun j hj => by
    obtain ⟨u, _, hf⟩ := hc j (by simpa [hl] using hj)
    simpa using hf) h1
  simp only [storeVar, Sem.run_bind, ht, Result.andThen_ok, hl, ne_eq, not_true_eq_false, if_false]
  simpa using hst
end
end Ey

namespace Ey
open Go Go.RowKit

def bkOK (P : Program) (t : TypeId) (k : BK) : Bool :=
  tyOK P t 1 false && match k, P.underlying t with
  | .b, some .bool => true
  | .i, some (.int _) => true
  | .s, some .string => true
  | _, _ => false

def fieldsFlat (P : Program) : Nat → List Field → List BK → Bool
  | _, [], [] => true
  | n, f :: fs, k :: ks => f.name != "_" && f.offset == n && bkOK P f.type k && fieldsFlat P (n + 1) fs ks
  | _, _, _ => false

def aggTyOK (P : Program) (k : EqK) (t : TypeId) : Bool :=
  match k with
  | .agg ks => !P.eqGuardType P.depth t && (match P.underlying t with
    | some (.struct fs) => !P.stoodInHeld t && fieldsFlat P 0 fs.toList ks
    | some (.array n e) => n == ks.length && !ks.isEmpty && ks.all (bkOK P e)
    | _ => false)
  | _ => false

section
variable {C : Cx} {g : Gh} {own : Own} {B : Nat} {H : Heap} {w : World} {env : Env} {a : Act} {n : Nat} {L : List Nat}

theorem bk_ty {t : TypeId} {k : BK} (h : bkOK C.P t k = true) : TyIs C.P t 1 false := by
  simp only [bkOK, Bool.and_eq_true] at h
  exact tyIs h.1

theorem eqCell_run {t : TypeId} {k : BK} (h : bkOK C.P t k = true) {x y : AV} {r : Bool} (he : eqCell k x y = some r) {u v : Value} (hx : VR C g x u) (hy : VR C g y v) (d : Nat) : (Op.equalIn (d + 1) t u v).run C.P w = .ok r w := by
  simp only [bkOK, Bool.and_eq_true] at h
  obtain ⟨_, h⟩ := h
  split at h <;> rename_i hu
  case h_4 => cases h
  all_goals
    unfold eqCell at he
    split at he <;> (first | (cases he; done) | skip) <;> (first | (rename_i hk; cases hk; done) | skip)
  · simp only [Option.some.injEq] at he
    subst he
    cases hx; cases hy
    simp [Op.equalIn, run_underlying hu]
  · split at he
    · rename_i hk
      simp only [Option.some.injEq] at he
      subst he
      cases hx; cases hy
      simp [Op.equalIn, run_underlying hu, hk]
    · cases he
  · simp only [Option.some.injEq] at he
    subst he
    obtain ⟨b1, rfl, h1⟩ := str_inv hx
    obtain ⟨b2, rfl, h2⟩ := str_inv hy
    simp only [Op.equalIn, Sem.run_bind, run_underlying hu, Result.andThen_ok, Sem.run_pure]
    congr 1
    rw [← h1, ← h2]
    obtain ⟨⟨x⟩⟩ := b1
    obtain ⟨⟨y⟩⟩ := b2
    show ((⟨x⟩ : Array UInt8) == ⟨y⟩) = (x == y)
    simp

variable {cs ds : List AV} {xs ys : Array Value}

theorem cell_part {t : TypeId} {k : BK} (h : bkOK C.P t k = true) (hl : cs.length = xs.size) (h1 : ∀ c ∈ cs, c.one = true) (hv : ∀ (i : Nat) (x : AV) (y : Value), cs[i]? = some x → xs[i]? = some y → VR C g x y) {j : Nat} {x : AV} (hx : cs[j]? = some x) :
    ∃ u, (Go.part t xs j).run C.P w = .ok u w ∧ VR C g x u :=
  part_val (bk_ty h) (cs := cs) (off := j) (by simp [part, hx]) hl h1 hv

theorem eqFields_run (hl : cs.length = xs.size) (h1 : ∀ c ∈ cs, c.one = true) (hv : ∀ (i : Nat) (x : AV) (y : Value), cs[i]? = some x → xs[i]? = some y → VR C g x y)
    (hl' : ds.length = ys.size) (h1' : ∀ c ∈ ds, c.one = true) (hv' : ∀ (i : Nat) (x : AV) (y : Value), ds[i]? = some x → ys[i]? = some y → VR C g x y) (d : Nat) {r : Bool} :
    ∀ {ks : List BK} {fs : List Field} {m : Nat}, fieldsFlat C.P m fs ks = true → eqCells ks (cs.drop m) (ds.drop m) = some r → (Op.eqFields (d + 1) xs ys fs).run C.P w = .ok r w
  | [], [], m, _, he => by
    cases hc : cs.drop m <;> cases hd : ds.drop m <;> rw [hc, hd] at he <;> simp [eqCells] at he
    subst he
    simp [Op.eqFields]
  | [], _ :: _, _, hf, _ => by simp [fieldsFlat] at hf
  | _ :: _, [], _, hf, _ => by simp [fieldsFlat] at hf
  | k :: ks, f :: fs, m, hf, he => by
    simp only [fieldsFlat, Bool.and_eq_true, bne_iff_ne, ne_eq, beq_iff_eq] at hf
    obtain ⟨⟨⟨hn, ho⟩, hb⟩, hf'⟩ := hf
    cases hc : cs.drop m with
    | nil => rw [hc] at he; simp [eqCells] at he
    | cons x cs' =>
      cases hd : ds.drop m with
      | nil => rw [hc, hd] at he; simp [eqCells] at he
      | cons y ds' =>
        have hx : cs[m]? = some x := by rw [← List.head?_drop, hc]; rfl
        have hy : ds[m]? = some y := by rw [← List.head?_drop, hd]; rfl
        have hc' : cs.drop (m + 1) = cs' := by rw [← List.drop_drop, hc]; rfl
        have hd' : ds.drop (m + 1) = ds' := by rw [← List.drop_drop, hd]; rfl
        rw [hc, hd] at he
        simp only [eqCells] at he
        obtain ⟨u, p1, p2⟩ := cell_part (w := w) hb hl h1 hv hx
        obtain ⟨v, q1, q2⟩ := cell_part (w := w) hb hl' h1' hv' hy
        cases hr : eqCell k x y with
        | none => rw [hr] at he; cases he
        | some r1 =>
          rw [hr] at he
          have hrun := eqCell_run (w := w) hb hr p2 q2 d
          simp only [Op.eqFields, if_pos hn, Sem.run_bind, ho, p1, q1, hrun, Result.andThen_ok]
          cases r1 with
          | false =>
            simp only [Option.some.injEq] at he
            subst he
            simp
          | true =>
            simp only at he
            simp only [Bool.not_true, Bool.false_eq_true, if_false]
            exact eqFields_run hl h1 hv hl' h1' hv' d hf' (by rw [hc', hd']; exact he)

theorem eqItems_run (hl : cs.length = xs.size) (h1 : ∀ c ∈ cs, c.one = true) (hv : ∀ (i : Nat) (x : AV) (y : Value), cs[i]? = some x → xs[i]? = some y → VR C g x y)
    (hl' : ds.length = ys.size) (h1' : ∀ c ∈ ds, c.one = true) (hv' : ∀ (i : Nat) (x : AV) (y : Value), ds[i]? = some x → ys[i]? = some y → VR C g x y) (d : Nat) {e : TypeId} {r : Bool} :
    ∀ {ks : List BK} {m : Nat}, ks.all (bkOK C.P e) = true → eqCells ks (cs.drop m) (ds.drop m) = some r → (Op.eqItems (d + 1) e 1 xs ys ((List.range ks.length).map (· + m))).run C.P w = .ok r w
  | [], m, _, he => by
    cases hc : cs.drop m <;> cases hd : ds.drop m <;> rw [hc, hd] at he <;> simp [eqCells] at he
    subst he
    simp [Op.eqItems]
  | k :: ks, m, hf, he => by
    simp only [List.all_cons, Bool.and_eq_true] at hf
    cases hc : cs.drop m with
    | nil => rw [hc] at he; simp [eqCells] at he
    | cons x cs' =>
      cases hd : ds.drop m with
      | nil => rw [hc, hd] at he; simp [eqCells] at he
      | cons y ds' =>
        have hx : cs[m]? = some x := by rw [← List.head?_drop, hc]; rfl
        have hy : ds[m]? = some y := by rw [← List.head?_drop, hd]; rfl
        have hc' : cs.drop (m + 1) = cs' := by rw [← List.drop_drop, hc]; rfl
        have hd' : ds.drop (m + 1) = ds' := by rw [← List.drop_drop, hd]; rfl
        rw [hc, hd] at he
        simp only [eqCells] at he
        obtain ⟨u, p1, p2⟩ := cell_part (w := w) hf.1 hl h1 hv hx
        obtain ⟨v, q1, q2⟩ := cell_part (w := w) hf.1 hl' h1' hv' hy
        have hrange : (List.range (k :: ks).length).map (· + m) = m :: (List.range ks.length).map (· + (m + 1)) := by
          rw [List.length_cons, List.range_succ_eq_map]
          simp only [List.map_cons, List.map_map, Nat.zero_add]
          congr 1
          refine List.map_congr_left fun x _ => ?_
          simp only [Function.comp]
          omega
        rw [hrange]
        cases hr : eqCell k x y with
        | none => rw [hr] at he; cases he
        | some r1 =>
          rw [hr] at he
          have hrun := eqCell_run (w := w) hf.1 hr p2 q2 d
          simp only [Op.eqItems, Nat.mul_one, Sem.run_bind, p1, q1, hrun, Result.andThen_ok]
          cases r1 with
          | false =>
            simp only [Option.some.injEq] at he
            subst he
            simp
          | true =>
            simp only at he
            simp only [Bool.not_true, Bool.false_eq_true, if_false]
            exact eqItems_run hl h1 hv hl' h1' hv' d hf.2 (by rw [hc', hd']; exact he)

theorem agg_sim {k : EqK} {p q : AV} {r : Bool} (hz : eqAV k p q = some r) {u v : Value} (hp : VR C g p u) (hq : VR C g q v) {t : TypeId} {x y : Operand} (ht : aggTyOK C.P k t = true) (neg : Bool) :
    (do eqGuard (if neg then .neq else .eql) t x y u v; Go.binOp (if neg then .neq else .eql) t u v : Sem Value).run C.P w = .ok (.bool (r != neg)) w := by
  unfold aggTyOK at ht
  split at ht
  · rename_i ks
    simp only [Bool.and_eq_true, Bool.not_eq_true'] at ht
    obtain ⟨hg, ht⟩ := ht
    unfold eqAV at hz
    split at hz <;> (first | (cases hz; done) | skip) <;> (first | (rename_i hk; cases hk; done) | skip)
    rename_i ks' cs ds hk
    cases hk
    split at hz
    · rename_i hlen
      obtain ⟨xs, rfl, hl, h1, hv⟩ := agg_inv hp
      obtain ⟨ys, rfl, hl', h1', hv'⟩ := agg_inv hq
      refine eq_of_equal (fun op => by cases op <;> simp [eqGuard, hg]) ?_ rfl rfl neg
      show (Op.equalIn (9999 + 1) t (.agg xs) (.agg ys)).run C.P w = .ok r w
      split at ht
      · rename_i fs hu
        simp only [Bool.and_eq_true, Bool.not_eq_true'] at ht
        have hfs : C.P.fieldsOf t = fs := by simp [Program.fieldsOf, hu]
        rw [run_equalIn_struct w 9999 t xs ys (by rw [hfs]; exact hu) ht.1, hfs]
        exact eqFields_run hl h1 hv hl' h1' hv' 9998 ht.2 (by simpa using hz)
      · rename_i m e hu
        simp only [Bool.and_eq_true, beq_iff_eq, Bool.not_eq_true', List.isEmpty_eq_false_iff] at ht
        obtain ⟨⟨rfl, hne⟩, hall⟩ := ht
        have hb : ∃ q, bkOK C.P e q = true := by
          cases ks with
          | nil => exact absurd rfl hne
          | cons q qs => exact ⟨q, by simp only [List.all_cons, Bool.and_eq_true] at hall; exact hall.1⟩
        obtain ⟨q, hb⟩ := hb
        obtain ⟨i, hi, hsz⟩ := (bk_ty hb).info
        have hcell : C.P.cellsOf e = 1 := by simp [Program.cellsOf, hi, hsz]
        rw [run_equalIn_array w 9999 xs ys hu hi, hcell]
        have := eqItems_run (w := w) (m := 0) hl h1 hv hl' h1' hv' 9998 hall (by simpa using hz)
        simpa using this
      · cases ht
    · cases hz
  · cases ht
end
end Ey

namespace Ey
open Go Go.RowKit

def strTy (P : Program) (t : TypeId) : Bool :=
  match P.underlying t with
  | some .string => true
  | _ => false

theorem strTy_is {P : Program} {t : TypeId} (h : strTy P t = true) : P.underlying t = some .string := by
  unfold strTy at h; split at h <;> simp_all

def bytesTy (P : Program) (t : TypeId) : Bool :=
  match P.underlying t with
  | some (.slice e) => match P.underlying e, P.info? e with
    | some (.int .u8), some i => i.size == 1
    | _, _ => false
  | _ => false

theorem bytesTy_is {P : Program} {t : TypeId} (h : bytesTy P t = true) : ∃ e i, P.underlying t = some (.slice e) ∧ P.underlying e = some (.int .u8) ∧ P.info? e = some i ∧ i.size = 1 := by
  unfold bytesTy at h
  split at h
  · rename_i e hu
    split at h
    · rename_i i hi he
      exact ⟨e, i, hu, by assumption, by assumption, by simpa using h⟩
    · simp at h
  · simp at h

def intTy (P : Program) (t : TypeId) (k : IntKind) : Bool :=
  match P.underlying t with
  | some (.int k') => k' == k
  | _ => false

theorem intTy_is {P : Program} {t : TypeId} {k : IntKind} (h : intTy P t k = true) : P.underlying t = some (.int k) := by
  unfold intTy at h; split at h <;> simp_all

def slcTy (P : Program) (t : TypeId) : Bool :=
  match P.underlying t with
  | some (.slice _) => true
  | _ => false

theorem slcTy_is {P : Program} {t : TypeId} (h : slcTy P t = true) : ∃ e, P.underlying t = some (.slice e) := by
  unfold slcTy at h; split at h
  · exact ⟨_, by assumption⟩
  · simp at h

def asBuiltin (c : Call) : Option (Builtin × List Operand × List TypeId) :=
  match c.callee with
  | .builtin b => some (b, c.args.toList, c.argTypes.toList)
  | _ => none

theorem asBuiltin_is {c : Call} {b : Builtin} {xs : List Operand} {ts : List TypeId} (h : asBuiltin c = some (b, xs, ts)) : c = { callee := .builtin b, args := xs.toArray, argTypes := ts.toArray } := by
  unfold asBuiltin at h
  split at h
  · rename_i b' hb
    simp at h
    obtain ⟨rfl, rfl, rfl⟩ := h
    cases c
    simp_all
  · simp at h

def slaOK (P : Program) (t : TypeId) (n : Nat) : Bool :=
  match P.underlying t with
  | some (.array m e) => m == n && (match P.info? e with | some i => i.size == 1 | none => false)
  | _ => false

theorem sla_sim {C : Cx} {g : Gh} {w : World} {t : TypeId} {n : Nat} (h : slaOK C.P t n = true) {x : AV} (hn : x.cells.length = n) {lo hi : Option AV} {l k : Nat} (hb : slBounds n lo hi = some (l, k))
    {v : Value} (hx : VR C g (.imm x) v) {vl vh : Option Value} (hl : OptR C g lo vl) (hh : OptR C g hi vh) :
    ∃ u, (Instr.sliceAt t v vl vh none).run C.P w = .ok u w ∧ VR C g (.list false ((x.cells.drop l).take (k - l))) u := by
  unfold slaOK at h
  split at h
  · rename_i m e hu
    simp only [Bool.and_eq_true, beq_iff_eq] at h
    obtain ⟨rfl, h⟩ := h
    split at h
    · rename_i i hi
      simp only [beq_iff_eq] at h
      have hsize : (Go.sizeOf e).run C.P w = .ok 1 w := by simp [Go.sizeOf, typeInfo, hi, h]
      cases hx with
      | imm _ b o f h1 hne hG hv =>
        obtain ⟨k1, k2, k3⟩ := bounds_run (w := w) (cap := m) hb hl hh (Nat.le_refl _) false
        refine ⟨_, by simp only [Instr.sliceAt, Sem.run_bind, run_underlying hu, Result.andThen_ok]; simp [Instr.sureAddr, k1, hsize]; rfl, ?_⟩
        have hlen : ((x.cells.drop l).take (k - l)).length = k - l := by simp; omega
        have hget : ∀ (i : Nat) (y : AV), ((x.cells.drop l).take (k - l))[i]? = some y → x.cells[l + i]? = some y ∧ i < k - l := by
          intro i y hy
          have hi : i < k - l := by
            have := (List.getElem?_eq_some_iff.1 hy).1
            omega
          rw [List.getElem?_take, if_pos hi, List.getElem?_drop] at hy
          exact ⟨hy, hi⟩
        have h1' : ∀ (i : Nat) (y : AV), ((x.cells.drop l).take (k - l))[i]? = some y → y.one = true := fun i y hy => h1 y (List.mem_of_getElem? (hget i y hy).1)
        have key := VR.list (C := C) (g := g) ((x.cells.drop l).take (k - l)) b (if m = l then o else o + l) (m - l) 1 (fun i _ => f (l + i)) (by omega)
          (fun i y hy => by rw [AV.one_cells (h1' i y hy)]; exact ⟨rfl, fun c hc => by simp at hc; exact hc ▸ h1' i y hy⟩) (fun i y hy => by rw [AV.one_cells (h1' i y hy)]; simp) (fun i j hi hj => by
            rw [hlen] at hi
            obtain rfl : j = 0 := by omega
            have := hG (l + i) (by omega)
            rw [if_neg (by omega)]
            rwa [show o + l + i * 1 + 0 = o + (l + i) by omega])
          (fun i j y z hy hz => by
            rw [AV.one_cells (h1' i y hy)] at hz
            cases j with
            | zero => simp at hz; subst hz; exact hv _ _ (hget i y hy).1
            | succ j => simp at hz)
        rw [hlen] at key
        by_cases hml : m = l
        · rw [if_pos hml] at key ⊢; exact key
        · rw [if_neg hml] at key ⊢; rw [add_at]; exact key
    · cases h
  · cases h

def chkPure (C : Cx) (op : Op) (aop : AOp) : Bool :=
  match op, aop with
  | .move x, .mv y => opdOK C x y
  | .assign x, .mv y => opdOK C x y
  | .pick c p q, .pick c' p' q' => opdOK C c c' && opdOK C p p' && opdOK C q q'
  | .binOp op _ x y _, .bin op' x' y' => op == op' && opdOK C x x' && opdOK C y y'
  | .binOp op t x y _, .eq neg k x' y' => op == (if neg then .neq else .eql) && (eqTyOK C.P k t y || aggTyOK C.P k t) && opdOK C x x' && opdOK C y y'
  | .unOp op _ x, .un op' x' => op == op' && opdOK C x x'
  | .convert s d x, .cvi k x' => (C.P.underlying s).isSome && intTy C.P d k && opdOK C x x'
  | .convert s d x, .mv x' => strTy C.P s && strTy C.P d && opdOK C x x' && (match x' with | .k (.str _) => true | _ => false)
  | .build t ps, .bld z qs => zeroOK C.P t z && builtOK C.P t && (match z with | .agg _ => true | _ => false) && partsOK C (placesOf C.P t) ps.toList qs
  | .fieldAddr t x k, .fa off sz ag y => fieldOK C.P t k off sz ag && opdOK C x y
  | .indexAddr t x i, .ia m sz ag y j => arrOK C.P t m sz ag && opdOK C x y && opdOK C i j
  | .indexAddr t x i, .ix sz y j => slcOK C.P t sz && opdOK C x y && opdOK C i j
  | .load t x, .ld sz ag y => tyOK C.P t sz ag && opdOK C x y
  | .field t x k, .fld off sz ag y => fieldOK C.P t k off sz ag && opdOK C x y
  | .index t x i, .ixa m sz ag y j => arrOK C.P t m sz ag && opdOK C x y && opdOK C i j
  | .index t x i, .ixs y j => strTy C.P t && opdOK C x y && opdOK C i j
  | .call c, .len y => match asBuiltin c with
    | some (.len, [x], [t]) => slcTy C.P t && opdOK C x y
    | _ => false
  | .call c, .lns y => match asBuiltin c with
    | some (.len, [x], [t]) => strTy C.P t && opdOK C x y
    | _ => false
  | .call c, .mnmx mx x' y' => match asBuiltin c with
    | some (b, [x, y], _) => b == (if mx then .max else .min) && opdOK C x x' && opdOK C y y'
    | _ => false
  | .slice t x lo hi mx, .sl sz y lo' hi' mx' => slcOK C.P t sz && opdOK C x y && optOK C lo lo' && optOK C hi hi' && optOK C mx mx'
  | .slice t x lo hi mx, .ss y lo' hi' => strTy C.P t && opdOK C x y && optOK C lo lo' && optOK C hi hi' && optOK C mx none
  | .extract x i, .ext j y => i == j && opdOK C x y
  | .makeInterface t x, .mkif tag y => concOK C.P t && C.tm tag == some t && opdOK C x y
  | .typeAssert x _ t ok, .tas tag z ok' y => ok == ok' && concOK C.P t && C.tm tag == some t && (!ok || zeroOK C.P t z) && opdOK C x y
  | .makeFunc (.func f) first cap, .mkfn f' ys => C.fm f' == some f && first.isEmpty && opdsOK C cap.toList ys
  | .nilCheck x, .nilc y => opdOK C x y
  | .load t x, .ldl sz ag s => tyOK C.P t sz ag && opdOK C x (.t s)
  | .call c, .cap y => match asBuiltin c with
    | some (.cap, [x], [t]) => slcTy C.P t && opdOK C x y
    | _ => false
  | .slice t x lo hi mx, .sla m y lo' hi' => slaOK C.P t m && opdOK C x y && optOK C lo lo' && optOK C hi hi' && optOK C mx none
  | .convert s d x, .nat k ys => k == 4 && (match C.P.underlying s with | some (.int _) => true | _ => false) && (match C.P.underlying d with | some (.float .f64) => true | _ => false) && (match ys with | [y] => opdOK C x y | _ => false)
  | .call c, .nat k ys => (match c.callee with
    | .value (.func fid) => natFn C.P fid k && opdsOK C c.args.toList ys
    | _ => match asBuiltin c with
      | some (b, xs, _) => ((k == 5 && b == .min) || (k == 6 && b == .max)) && xs.length == 3 && opdsOK C xs ys
      | none => false)
  | _, .bad => true
  | _, _ => false

section
variable {C : Cx} {g : Gh} {own : Own} {B : Nat} {H : Heap} {w : World} {env : Env} {a : Act} {n : Nat} {L : List Nat}

theorem run_value {o : Oper} {s : Sem Value} {v : Value} (h : execOp a.eval o = do pure (.value (← s))) (hs : s.run C.P w = .ok v w) : (execOp a.eval o).run C.P w = .ok (.value v) w := by
  rw [h]; simp [hs]

theorem run_builtin {o : Oper} {b : Builtin} {xs : List Operand} {ts : List TypeId} (ho : o.op = .call { callee := .builtin b, args := xs.toArray, argTypes := ts.toArray }) :
    execOp a.eval o = Go.builtin b ts.toArray o.type ((xs.toArray).map fun | .const _ => true | _ => false) ((xs.toArray).map a.eval) := by
  obtain ⟨dst, op, type, pos, after, guard⟩ := o
  simp only at ho
  subst ho
  simp [execOp, resolve, invoke]
  rfl

set_option maxHeartbeats 1000000 in
theorem opv_sim (hS : St C g own B H w) (hF : Fr C g own w env a.tmps n L) {o : Oper} {aop : AOp} (hc : chkPure C o.op aop = true) {x : Sl} (hx : opv env H aop = some x) :
    ∃ v, (execOp a.eval o).run C.P w = .ok (.value v) w ∧ SlR C g env (tmOf a.tmps) x v ∧ x.plain = true := by
  obtain ⟨dst, op, type, pos, after, guard⟩ := o
  simp only at hc
  unfold chkPure at hc
  split at hc
  -- move, assign
  case h_1 x' y =>
    simp only [opv] at hx
    refine ⟨_, rfl, ?_⟩
    split at hx <;> simp at hx
    · rename_i q hq; subst hx; exact ⟨sl_rel hF hc hq (by simp), rfl⟩
    · rename_i s o' hq; subst hx; exact ⟨sl_rel hF hc hq (by simp), rfl⟩
  case h_2 x' y =>
    simp only [opv] at hx
    refine ⟨_, rfl, ?_⟩
    split at hx <;> simp at hx
    · rename_i q hq; subst hx; exact ⟨sl_rel hF hc hq (by simp), rfl⟩
    · rename_i s o' hq; subst hx; exact ⟨sl_rel hF hc hq (by simp), rfl⟩
  -- pick
  case h_3 c p q c' p' q' =>
    simp only [Bool.and_eq_true] at hc
    simp only [opv] at hx
    split at hx
    · rename_i t ht
      simp only [Option.map_eq_some_iff] at hx
      obtain ⟨r, hr, rfl⟩ := hx
      have h1 := av_rel hF hc.1.1 ht
      cases t
      · refine ⟨a.eval q, ?_, av_rel hF hc.2 (by simpa using hr), rfl⟩
        simp only [execOp]
        generalize a.eval c = vc at h1
        cases h1
        simp [asBool]
      · refine ⟨a.eval p, ?_, av_rel hF hc.1.2 (by simpa using hr), rfl⟩
        simp only [execOp]
        generalize a.eval c = vc at h1
        cases h1
        simp [asBool]
    · simp at hx
  -- bin
  case h_4 op' t x' y' _ op2 p q =>
    simp only [Bool.and_eq_true, beq_iff_eq] at hc
    obtain ⟨⟨rfl, h1⟩, h2⟩ := hc
    simp only [opv] at hx
    split at hx
    · rename_i u v hu hv
      simp only [Option.map_eq_some_iff] at hx
      obtain ⟨r, hr, rfl⟩ := hx
      obtain ⟨z, h3, h4⟩ := bin_sim (C := C) (w := w) hr (av_rel hF h1 hu) (av_rel hF h2 hv) t x' y'
      exact ⟨z, run_value (C := C) rfl h3, h4, rfl⟩
    · simp at hx
  -- eq
  case h_5 op' t x' y' _ neg k p q =>
    simp only [Bool.and_eq_true, beq_iff_eq] at hc
    obtain ⟨⟨⟨rfl, h0⟩, h1⟩, h2⟩ := hc
    simp only [opv] at hx
    split at hx
    · rename_i u v hu hv
      simp only [Option.map_eq_some_iff] at hx
      obtain ⟨r, hr, rfl⟩ := hx
      simp only [Bool.or_eq_true] at h0
      rcases h0 with h0 | h0
      · exact ⟨_, run_value (C := C) rfl (eq_sim (x := x') hr (av_rel hF h1 hu) (av_rel hF h2 hv) h0 neg), .bool _, rfl⟩
      · exact ⟨_, run_value (C := C) rfl (agg_sim (x := x') hr (av_rel hF h1 hu) (av_rel hF h2 hv) h0 neg), .bool _, rfl⟩
    · simp at hx
  -- un
  case h_6 op' _ x' op2 p =>
    simp only [Bool.and_eq_true, beq_iff_eq] at hc
    obtain ⟨rfl, h1⟩ := hc
    simp only [opv] at hx
    split at hx
    · rename_i u hu
      simp only [Option.map_eq_some_iff] at hx
      obtain ⟨r, hr, rfl⟩ := hx
      obtain ⟨z, h3, h4⟩ := un_sim (w := w) hr (av_rel hF h1 hu)
      exact ⟨z, run_value (C := C) rfl h3, h4, rfl⟩
    · simp at hx
  -- cvi
  case h_7 s d x' k p =>
    simp only [Bool.and_eq_true] at hc
    obtain ⟨⟨h0, h1⟩, h2⟩ := hc
    obtain ⟨ds, hds⟩ := Option.isSome_iff_exists.1 h0
    simp only [opv] at hx
    split at hx
    · rename_i k' m hm
      simp at hx; subst hx
      exact ⟨_, run_value (C := C) rfl (cvi_sim hds (intTy_is h1) (av_rel hF h2 hm)), .int _ _, rfl⟩
    · simp at hx
  -- string to string
  case h_8 s d x' p =>
    simp only [Bool.and_eq_true] at hc
    obtain ⟨⟨⟨h0, h1⟩, h2⟩, h3⟩ := hc
    split at h3
    · simp only [opv, Env.sl] at hx
      simp at hx; subst hx
      have hr := av_rel hF h2 (z := .str _) rfl
      obtain ⟨b, hb, _⟩ := str_inv hr
      refine ⟨_, run_value (C := C) (s := Go.convert s d (a.eval x')) rfl ?_, hr, rfl⟩
      rw [hb]
      simp [Go.convert, run_underlying (strTy_is h0), run_underlying (strTy_is h1)]
    · simp at h3
  -- build
  case h_9 t ps z qs =>
    simp only [Bool.and_eq_true] at hc
    obtain ⟨⟨⟨h0, h1⟩, h2⟩, h3⟩ := hc
    simp only [opv] at hx
    split at hx
    · rename_i rs hrs
      simp only [Option.map_eq_some_iff] at hx
      obtain ⟨r, hr, rfl⟩ := hx
      obtain ⟨v, h4, h5⟩ := bld_sim (w := w) h0 h1 (parts_rel hF h3 hrs) (by split at h2; exact ⟨_, rfl⟩; simp at h2) hr
      refine ⟨v, run_value (C := C) (s := Instr.build t (ps.map fun (i, x) => (i, a.eval x))) rfl ?_, h5, rfl⟩
      have : (ps.map fun (i, x) => (i, a.eval x)) = (ps.toList.map fun (i, x) => (i, a.eval x)).toArray := by
        apply Array.ext'; simp
      rw [this]; exact h4
    · simp at hx
  -- fieldAddr
  case h_10 t x' k off sz ag y =>
    simp only [Bool.and_eq_true] at hc
    simp only [opv] at hx
    obtain ⟨v, h1, h2⟩ := fa_sim (w := w) hF hc.1 hc.2 hx
    refine ⟨v, run_value (C := C) rfl h1, h2, ?_⟩
    unfold addrS at hx
    split at hx <;> simp at hx
    · subst hx; rfl
    · obtain ⟨_, _, rfl⟩ := hx; rfl
    · subst hx; rfl
    · subst hx; rfl
  -- indexAddr, array
  case h_11 t x' i m sz ag y j =>
    simp only [Bool.and_eq_true] at hc
    simp only [opv] at hx
    split at hx
    · rename_i q k hk
      split at hx
      · rename_i h0
        obtain ⟨v, h1, h2⟩ := ia_sim (w := w) hF hc.1.1 hc.1.2 hc.2 hk h0.1 h0.2 hx
        refine ⟨v, run_value (C := C) rfl h1, h2, ?_⟩
        unfold addrS at hx
        split at hx <;> simp at hx
        · subst hx; rfl
        · obtain ⟨_, _, rfl⟩ := hx; rfl
        · subst hx; rfl
        · subst hx; rfl
      · simp at hx
    · simp at hx
  -- indexAddr, slice
  case h_12 t x' i sz y j =>
    simp only [Bool.and_eq_true] at hc
    obtain ⟨v, h1, h2⟩ := ix_sim hS hF hc.1.1 hc.1.2 hc.2 hx
    refine ⟨v, run_value (C := C) rfl h1, h2, ?_⟩
    simp only [opv] at hx
    (repeat' split at hx) <;> simp at hx <;> subst hx <;> rfl
  -- load
  case h_13 t x' sz ag y =>
    simp only [Bool.and_eq_true] at hc
    simp only [opv, Option.map_eq_some_iff] at hx
    obtain ⟨r, hr, rfl⟩ := hx
    obtain ⟨v, h1, h2⟩ := ld_sim hS hF (tyIs hc.1) hc.2 hr
    exact ⟨v, run_value (C := C) rfl h1, h2, rfl⟩
  -- field
  case h_14 t x' k off sz ag y =>
    simp only [Bool.and_eq_true] at hc
    simp only [opv] at hx
    split at hx
    · rename_i cs hcs
      simp only [Option.map_eq_some_iff] at hx
      obtain ⟨r, hr, rfl⟩ := hx
      obtain ⟨v, h1, h2⟩ := fld_sim (w := w) hc.1 hr (av_rel hF hc.2 hcs)
      exact ⟨v, run_value (C := C) rfl h1, h2, rfl⟩
    · simp at hx
  -- index, array
  case h_15 t x' i m sz ag y j =>
    simp only [Bool.and_eq_true] at hc
    simp only [opv] at hx
    split at hx
    · rename_i cs q k hcs hk
      split at hx
      · rename_i h0
        simp only [Option.map_eq_some_iff] at hx
        obtain ⟨r, hr, rfl⟩ := hx
        obtain ⟨v, h1, h2⟩ := ixa_sim (w := w) hc.1.1 h0.1 h0.2 hr (av_rel hF hc.1.2 hcs) (av_rel hF hc.2 hk)
        exact ⟨v, run_value (C := C) rfl h1, h2, rfl⟩
      · simp at hx
    · simp at hx
  -- index, string
  case h_16 t x' i y j =>
    simp only [Bool.and_eq_true] at hc
    simp only [opv] at hx
    split at hx
    · rename_i s q k hs hk
      split at hx
      · rename_i h0
        split at hx
        · rename_i b hb
          simp at hx; subst hx
          obtain ⟨v, h1, h2⟩ := ixs_sim (w := w) (strTy_is hc.1.1) h0 hb (av_rel hF hc.1.2 hs) (av_rel hF hc.2 hk)
          exact ⟨v, run_value (C := C) rfl h1, h2, rfl⟩
        · simp at hx
      · simp at hx
    · simp at hx
  -- len
  case h_17 c y =>
    split at hc
    · rename_i x' t hb
      simp only [Bool.and_eq_true] at hc
      obtain ⟨e, he⟩ := slcTy_is hc.1
      have := asBuiltin_is hb
      subst this
      simp only [opv] at hx
      split at hx
      · rename_i v hv
        simp only [Option.map_eq_some_iff] at hx
        obtain ⟨k, hk, rfl⟩ := hx
        refine ⟨_, ?_, .int _ _, rfl⟩
        rw [run_builtin rfl]
        simp only [Go.builtin]
        have := len_sim (w := w) he hk (av_rel hF hc.2 hv) type
        simp [this]
      · simp at hx
    · simp at hc
  case h_18 c y =>
    split at hc
    · rename_i x' t hb
      simp only [Bool.and_eq_true] at hc
      have := asBuiltin_is hb
      subst this
      simp only [opv] at hx
      split at hx
      · rename_i s hv
        simp at hx; subst hx
        refine ⟨_, ?_, .int _ _, rfl⟩
        rw [run_builtin rfl]
        simp only [Go.builtin]
        have := lns_sim (w := w) (strTy_is hc.1) (av_rel hF hc.2 hv) type
        simp [this]
      · simp at hx
    · simp at hc
  -- min, max
  case h_19 c mx p q =>
    split at hc
    · rename_i b x' y' ts hb
      simp only [Bool.and_eq_true, beq_iff_eq] at hc
      obtain ⟨⟨rfl, h1⟩, h2⟩ := hc
      have := asBuiltin_is hb
      subst this
      simp only [opv] at hx
      split at hx
      · rename_i k i k' i' hp hq
        split at hx
        · rename_i hk
          subst hk
          simp at hx; subst hx
          refine ⟨_, ?_, .int _ _, rfl⟩
          rw [run_builtin rfl]
          have := mnmx_sim (C := C) (w := w) (mx := mx) (av_rel hF h1 hp) (av_rel hF h2 hq) ts.toArray type
          cases mx <;> simp [Go.builtin] at this ⊢ <;> simp [this]
        · simp at hx
      · simp at hx
    · simp at hc
  -- slices
  case h_20 t x' lo hi mx sz y lo' hi' mx' =>
    simp only [Bool.and_eq_true] at hc
    obtain ⟨⟨⟨⟨h0, h1⟩, h2⟩, h3⟩, h4⟩ := hc
    simp only [opv] at hx
    split at hx
    · rename_i v l h m hv hl hh hm
      simp only [Option.map_eq_some_iff] at hx
      obtain ⟨r, hr, rfl⟩ := hx
      obtain ⟨u, h5, h6⟩ := sl_sim hS h0 hr (av_rel hF h1 hv) (opt_rel hF h2 hl) (opt_rel hF h3 hh) (opt_rel hF h4 hm)
      obtain ⟨e, ie, hu, _⟩ := slc_is h0
      refine ⟨u, run_value (C := C) (s := Instr.sliceAt t (a.eval x') (lo.map a.eval) (hi.map a.eval) (mx.map a.eval)) rfl ?_, h6, rfl⟩
      simp only [Instr.sliceAt, Sem.run_bind, run_underlying hu, Result.andThen_ok]
      exact h5
    · simp at hx
  case h_21 t x' lo hi mx y lo' hi' =>
    simp only [Bool.and_eq_true] at hc
    obtain ⟨⟨⟨⟨h0, h1⟩, h2⟩, h3⟩, h4⟩ := hc
    cases mx with
    | some _ => simp [optOK] at h4
    | none =>
      simp only [opv] at hx
      split at hx
      · rename_i s l h hv hl hh
        simp only [Option.map_eq_some_iff] at hx
        obtain ⟨⟨p, q⟩, hr, rfl⟩ := hx
        obtain ⟨u, h5, h6⟩ := ss_sim (w := w) (strTy_is h0) hr (av_rel hF h1 hv) (opt_rel hF h2 hl) (opt_rel hF h3 hh)
        refine ⟨u, run_value (C := C) (s := Instr.sliceAt t (a.eval x') (lo.map a.eval) (hi.map a.eval) none) rfl ?_, h6, rfl⟩
        simp only [Instr.sliceAt, Sem.run_bind, run_underlying (strTy_is h0), Result.andThen_ok]
        exact h5
      · simp at hx
  -- extract
  case h_22 x' i j y =>
    simp only [Bool.and_eq_true, beq_iff_eq] at hc
    obtain ⟨rfl, h1⟩ := hc
    simp only [opv] at hx
    split at hx
    · rename_i vs hvs
      simp only [Option.map_eq_some_iff] at hx
      obtain ⟨r, hr, rfl⟩ := hx
      obtain ⟨u, h2, h3⟩ := ext_sim (w := w) hr (av_rel hF h1 hvs)
      exact ⟨u, run_value (C := C) rfl h2, h3, rfl⟩
    · simp at hx
  -- makeInterface
  case h_23 t x' tag y =>
    simp only [Bool.and_eq_true, beq_iff_eq] at hc
    obtain ⟨⟨h0, h1⟩, h2⟩ := hc
    simp only [opv] at hx
    split at hx
    · rename_i v hv
      simp at hx; subst hx
      obtain ⟨u, h3, h4⟩ := mkif_sim (w := w) h0 h1 (av_rel hF h2 hv)
      exact ⟨u, run_value (C := C) rfl h3, h4, rfl⟩
    · simp at hx
  -- typeAssert
  case h_24 x' xt t ok tag z ok' y =>
    simp only [Bool.and_eq_true, beq_iff_eq, Bool.or_eq_true, Bool.not_eq_true'] at hc
    obtain ⟨⟨⟨⟨rfl, h0⟩, h1⟩, h2⟩, h3⟩ := hc
    simp only [opv] at hx
    have hzero : ok = true → zeroOK C.P t z = true := fun h => h2.resolve_left (by simp [h])
    split at hx
    · rename_i t' v hv
      have hr := av_rel hF h3 hv
      split at hx
      · rename_i he
        simp only [Option.some.injEq] at hx; subst hx
        obtain ⟨u, h4, h5⟩ := tas_sim (w := w) (xt := xt) (z := z) (ok := ok) h0 h1 hzero (x := .iface t' v) (r := if ok = true then .tup [v, .bool true] else v) (if_pos he) hr
        exact ⟨u, run_value (C := C) rfl h4, h5, rfl⟩
      · rename_i he
        split at hx
        · rename_i hok
          simp only [Option.some.injEq] at hx; subst hx
          obtain ⟨u, h4, h5⟩ := tas_sim (w := w) (xt := xt) (z := z) (ok := ok) h0 h1 hzero (x := .iface t' v) (r := .tup [z, .bool false]) ((if_neg he).trans (if_pos hok)) hr
          exact ⟨u, run_value (C := C) rfl h4, h5, rfl⟩
        · simp at hx
    · rename_i hv
      have hr := av_rel hF h3 hv
      split at hx
      · rename_i hok
        simp only [Option.some.injEq] at hx; subst hx
        obtain ⟨u, h4, h5⟩ := tas_sim (w := w) (xt := xt) (z := z) (ok := ok) h0 h1 hzero (x := .niliface) (r := .tup [z, .bool false]) (if_pos hok) hr
        exact ⟨u, run_value (C := C) rfl h4, h5, rfl⟩
      · simp at hx
    · simp at hx
  -- makeFunc
  case h_25 f first cap f' ys =>
    simp only [Bool.and_eq_true, beq_iff_eq] at hc
    obtain ⟨⟨h0, h1⟩, h2⟩ := hc
    simp only [opv] at hx
    split at hx
    · rename_i vs hvs
      simp at hx; subst hx
      obtain ⟨h3, h4⟩ := all_rel hF h2 hvs
      have hfe : first = #[] := by simpa using h1
      subst hfe
      refine ⟨.func (.func f) #[] (cap.map a.eval), by simp [execOp, Instr.makeFunc], .fn f' vs f _ h0 (by simp [h3]) (fun i x y hx hy => h4 i x y hx (by simpa using hy)), rfl⟩
    · simp at hx
  -- nilCheck
  case h_26 x' y =>
    simp only [opv] at hx
    split at hx
    · rename_i s o' hq
      simp at hx; subst hx
      have hr := sl_rel hF hc hq (by simp)
      have hr' := hr
      obtain ⟨cs, b, o2, h1, h2, h3⟩ := hr
      exact ⟨_, by simp only [execOp]; rw [h3]; rfl, by rw [← h3]; exact hr', rfl⟩
    all_goals first
      | (simp at hx; done)
      | (rename_i hq
         simp at hx; subst hx
         have hr := sl_rel hF hc hq (by simp)
         simp only [execOp]
         generalize a.eval x' = vx at hr
         refine ⟨vx, ?_, hr, rfl⟩
         cases hr <;> rfl)
  case h_27 t x' sz ag s =>
    simp only [Bool.and_eq_true] at hc
    simp only [opv] at hx
    split at hx
    · rename_i cs hq
      cases hp : part sz ag cs 0 with
      | none => rw [hp] at hx; simp at hx
      | some z =>
        rw [hp] at hx
        simp at hx; subst hx
        obtain ⟨v, h1, h2⟩ := ld_sim hS hF (tyIs hc.1) hc.2 (z := z) (by simp [Env.sl, hq, ldS, hp])
        exact ⟨v, by simp [execOp, h1], h2, rfl⟩
    · simp at hx
  case h_28 c y =>
    split at hc
    · rename_i x' t hb
      simp only [Bool.and_eq_true] at hc
      obtain ⟨e, he⟩ := slcTy_is hc.1
      have := asBuiltin_is hb
      subst this
      simp only [opv] at hx
      split at hx
      · rename_i hv
        simp only [Option.some.injEq] at hx; subst hx
        have hr := av_rel hF hc.2 hv
        refine ⟨.int .i64 0, ?_, .int _ _, rfl⟩
        rw [run_builtin rfl]
        generalize hev : a.eval x' = vx at hr
        cases hr
        simp [Go.builtin, Builtin.cap_, run_underlying he, goInt, hev]
      · rename_i hv
        simp only [Option.some.injEq] at hx; subst hx
        have hr := av_rel hF hc.2 hv
        refine ⟨.int .i64 0, ?_, .int _ _, rfl⟩
        rw [run_builtin rfl]
        generalize hev : a.eval x' = vx at hr
        cases hr
        simp [Go.builtin, Builtin.cap_, run_underlying he, goInt, hev]
      · simp at hx
    · simp at hc
  case h_29 t x' lo hi mx m y lo' hi' =>
    simp only [Bool.and_eq_true] at hc
    obtain ⟨⟨⟨⟨h0, h1⟩, h2⟩, h3⟩, h4⟩ := hc
    cases mx with
    | some _ => simp [optOK] at h4
    | none =>
      simp only [opv] at hx
      split at hx
      · rename_i z l k hv hl hh
        split at hx
        · rename_i hn
          simp only [Option.map_eq_some_iff] at hx
          obtain ⟨⟨p, q⟩, hr, rfl⟩ := hx
          obtain ⟨u, h5, h6⟩ := sla_sim (w := w) h0 hn hr (av_rel hF h1 hv) (opt_rel hF h2 hl) (opt_rel hF h3 hh)
          exact ⟨u, run_value (C := C) (s := Instr.sliceAt t (a.eval x') (lo.map a.eval) (hi.map a.eval) none) rfl h5, h6, rfl⟩
        · simp at hx
      · simp at hx
  case h_30 s d x' k ys =>
    simp only [Bool.and_eq_true, beq_iff_eq] at hc
    obtain ⟨⟨⟨rfl, h1⟩, h2⟩, h3⟩ := hc
    split at h1
    · rename_i q hs
      split at h2
      · rename_i hd
        split at h3
        · rename_i y
          simp only [opv, allAV] at hx
          cases hy : env.av y with
          | none => rw [hy] at hx; simp at hx
          | some z =>
            rw [hy] at hx
            simp only [Option.map_some] at hx
            have hr := av_rel hF h3 hy
            cases z <;> simp only [natAV, Option.map_none, reduceCtorEq, Option.map_some, Option.some.injEq] at hx
            rename_i k' m
            subst hx
            generalize hev : a.eval x' = vx at hr
            cases hr
            refine ⟨.float .f64 (FloatKind.nearest .f64 m), run_value (C := C) (s := convert s d (a.eval x')) rfl ?_, .flt _ _, rfl⟩
            rw [hev, run_convert_int_float w s d k' .f64 m (by rw [hs]; rfl) hd]; rfl
        · cases h3
      · cases h2
    · cases h1
  case h_31 c k ys =>
    split at hc
    · rename_i fid hcal
      simp only [Bool.and_eq_true] at hc
      simp only [opv] at hx
      split at hx
      · rename_i vs hvs
        simp only [Option.map_eq_some_iff] at hx
        obtain ⟨z, hz, rfl⟩ := hx
        obtain ⟨hl, hv⟩ := all_rel hF hc.2 hvs
        obtain ⟨v, h1, h2⟩ := nat_sim hc.1 hz (ws := c.args.toList.map a.eval) (by simpa using hl) hv w
        refine ⟨v, ?_, h2, rfl⟩
        obtain ⟨callee, args, ats⟩ := c
        simp only at hcal
        subst hcal
        have he : (List.map a.eval args.toList).toArray = args.map a.eval := by rw [← Array.toList_map, Array.toArray_toList]
        have hev : a.eval (.func fid) = .func (.func fid) #[] #[] := rfl
        rw [← h1]
        show Sem.run C.P _ w = Sem.run C.P (callFunc fid (List.map a.eval args.toList).toArray) w
        rw [he]
        simp [execOp, resolve, Deferred.ofValue, invoke, hev]
      · simp at hx
    · split at hc
      · rename_i b xs ts hb
        simp only [Bool.and_eq_true, Bool.or_eq_true, beq_iff_eq] at hc
        obtain ⟨⟨hk, hlen⟩, ho⟩ := hc
        have := asBuiltin_is hb
        subst this
        simp only [opv] at hx
        split at hx
        · rename_i vs hvs
          simp only [Option.map_eq_some_iff] at hx
          obtain ⟨z, hz, rfl⟩ := hx
          obtain ⟨hl, hv⟩ := all_rel hF ho hvs
          match xs, hlen with
          | [x1, x2, x3], _ =>
            obtain ⟨mx, h5, h6⟩ : ∃ mx : Bool, k = (if mx then 6 else 5) ∧ b = (if mx then Go.Builtin.max else .min) := by
              rcases hk with ⟨h5, h6⟩ | ⟨h5, h6⟩
              · exact ⟨false, h5, h6⟩
              · exact ⟨true, h5, h6⟩
            subst h5 h6
            obtain ⟨p, q, r, rfl, rfl⟩ := nat3 hz
            have h1 := hv 0 _ _ rfl rfl
            have h2 := hv 1 _ _ rfl rfl
            have h3 := hv 2 _ _ rfl rfl
            have := mnmx3_sim (C := C) (w := w) (mx := mx) h1 h2 h3 ts.toArray type
            refine ⟨.int .i64 (if mx then max (max p q) r else min (min p q) r), ?_, .int _ _, rfl⟩
            rw [run_builtin rfl]
            cases mx <;> simp [Go.builtin] at this ⊢ <;> simp [this]
        · simp at hx
      · simp at hc
  case h_32 => simp [opv] at hx
  case h_33 => simp at hc
end
end Ey

namespace Ey
open Go Go.RowKit

def Done (C : Cx) (g : Gh) (own : Own) (B : Nat) (H : Heap) (w : World) (a : Act) (n : Nat) (L : List Nat) (d : Option Nat) (e' : Env) (H' : Heap) (r : Result Next) : Prop :=
  ∃ g' own' w' v, (r = .ok (.value v) w' ∨ (r = .ok .skip w' ∧ v = undef)) ∧ Ext g own B H w g' own' H' w' ∧ St C g' own' B H' w' ∧ Fr C g' own' w' e' (a.put d v).tmps n L

def dstOK (n : Nat) (L : List Nat) : Option Nat → Prop
  | none => True
  | some d => d < n ∧ d ∉ L

section
variable {C : Cx} {g : Gh} {own : Own} {B : Nat} {H : Heap} {w : World} {env : Env} {a : Act} {n : Nat} {L : List Nat}

theorem put_tmps (d : Option Nat) (v : Value) : (a.put d v).tmps = match d with | some d => a.tmps.setIfInBounds d v | none => a.tmps := by cases d <;> rfl

theorem Fr.put {g' : Gh} {own' : Own} {w' : World} (hF : Fr C g' own' w' env a.tmps n L) {d : Option Nat} (hd : dstOK n L d) {x : Sl} {v : Value} (hx : SlR C g' env (tmOf a.tmps) x v) (hp : x.plain = true) :
    Fr C g' own' w' (setDst d x env) (a.put d v).tmps n L := by
  cases d with
  | none => exact hF
  | some d => exact hF.set hd.1 hd.2 hx hp

theorem done_pure (hS : St C g own B H w) (hF : Fr C g own w env a.tmps n L) {d : Option Nat} (hd : dstOK n L d) {x : Sl} {v : Value} {r : Result Next} (hr : r = .ok (.value v) w) (hx : SlR C g env (tmOf a.tmps) x v) (hp : x.plain = true) :
    Done C g own B H w a n L d (setDst d x env) H r :=
  ⟨g, own, w, v, .inl hr, .refl _ _ _ _ _, hS, hF.put hd hx hp⟩

theorem cell_new (w : World) (c : Array Value) (t : TypeId) (j : Nat) : (w.alloc (.cells c t)).cell? ⟨w.heap.size, j, none⟩ = c[j]? := by simp
theorem frozen_new (w : World) (c : Array Value) (t : TypeId) (j : Nat) : (w.alloc (.cells c t)).frozen? ⟨w.heap.size, j, none⟩ = false := by simp

theorem done_lv (hS : St C g own B H w) (hF : Fr C g own w env a.tmps n L) {d : Nat} (hd : d < n) (hL : d ∈ L) (hnl : ∀ cs, env.get d ≠ .lv cs) {cs : List AV} {c : Array Value} (hcs : CR C g cs c.toList) (t : TypeId) :
    Done C g own B H w a n L (some d) ((d, .lv cs) :: env) H (.ok (.value (.pointer (some ⟨w.heap.size, 0, none⟩))) (w.alloc (.cells c t))) := by
  have hN := New.alloc w (.cells c t)
  refine ⟨_, _, _, _, .inl rfl, Ext.grow hS hN (fun _ => none) (fun _ => .slot d), hS.grow hN _ _ (fun o v h => by cases h), ?_⟩
  rw [put_tmps]
  exact hF.setLv hS hN hd hL hnl hcs (fun j v hv => ⟨by rw [cell_new]; simpa using hv, frozen_new _ _ _ _⟩)

theorem done_imm (hS : St C g own B H w) (hF : Fr C g own w env a.tmps n L) {d : Option Nat} (hd : dstOK n L d) {x : AV} (hne : x.cells ≠ []) {c : Array Value} (hcs : CR C g x.cells c.toList) (t : TypeId) :
    Done C g own B H w a n L d (setDst d (.v (.imm x)) env) H (.ok (.value (.pointer (some ⟨w.heap.size, 0, none⟩))) (w.alloc (.cells c t))) := by
  have hN := New.alloc w (.cells c t)
  have hle := Gh.le_grow hS fun j => c[j]?
  refine ⟨_, _, _, _, .inl rfl, Ext.grow hS hN (fun j => c[j]?) (fun _ => .imm), hS.grow hN _ _ (fun o v h => ⟨rfl, by rw [cell_new]; exact h⟩), ?_⟩
  refine (hF.grow hS hN _ _).put hd (x := .v (.imm x)) ?_ rfl
  have hlen := hcs.len
  refine .imm x w.heap.size 0 (fun j => c.getD j undef) hcs.one hne (fun j hj => ?_) (fun j y hy => ?_)
  · have : j < c.size := by simp at hlen; omega
    simp [Gh.grow, this]
  · have hj := (List.getElem?_eq_some_iff.1 hy).1
    have hj' : j < c.size := by simp at hlen; omega
    have := hcs.rel j y (c.getD j undef) hy (by simp [hj'])
    exact this.mono hle

theorem done_list (hS : St C g own B H w) (hF : Fr C g own w env a.tmps n L) {d : Option Nat} (hd : dstOK n L d) {xs : List AV} {sz : Nat} (h0 : 0 < sz) (hsz : ∀ x ∈ xs, x.cells.length = sz) {c : Array Value} (hcs : CR C g (flat xs) c.toList) (t : TypeId) :
    Done C g own B H w a n L d (setDst d (.v (.list false xs)) env) H (.ok (.value (.slice (some ⟨w.heap.size, 0, none⟩) xs.length xs.length)) (w.alloc (.cells c t))) := by
  have hN := New.alloc w (.cells c t)
  have hle := Gh.le_grow hS fun j => c[j]?
  refine ⟨_, _, _, _, .inl rfl, Ext.grow hS hN (fun j => c[j]?) (fun _ => .imm), hS.grow hN _ _ (fun o v h => ⟨rfl, by rw [cell_new]; exact h⟩), ?_⟩
  refine (hF.grow hS hN _ _).put hd (x := .v (.list false xs)) ?_ rfl
  have hlen := hcs.len
  rw [flat_len hsz] at hlen
  have hin : ∀ i j, i < xs.length → j < sz → i * sz + j < c.size := fun i j hi hj => by
    have := idx_lt hi (Nat.le_refl _) hj
    simp at hlen; omega
  refine .list xs w.heap.size 0 xs.length sz (fun i j => c.getD (i * sz + j) undef) (Nat.le_refl _) (fun i x hx => ⟨hsz x (List.mem_of_getElem? hx), fun e he => ?_⟩) (fun i x hx e => by have := hsz x (List.mem_of_getElem? hx); rw [e] at this; simp at this; omega) (fun i j hi hj => ?_) (fun i j x y hx hy => ?_)
  · exact hcs.one e (List.mem_flatMap.2 ⟨x, List.mem_of_getElem? hx, he⟩)
  · have := hin i j hi hj
    simp [Gh.grow, this]
  · have hi := (List.getElem?_eq_some_iff.1 hx).1
    have hj : j < sz := by
      have := (List.getElem?_eq_some_iff.1 hy).1
      have := hsz x (List.mem_of_getElem? hx)
      omega
    have h1 := hin i j hi hj
    have h2 := flat_get hsz hx hj
    exact (hcs.rel (i * sz + j) y (c.getD (i * sz + j) undef) (by rw [h2]; exact hy) (by simp [h1])).mono hle

theorem done_obj (hS : St C g own B H w) (hF : Fr C g own w env a.tmps n L) {d : Option Nat} (hd : dstOK n L d) {cs : List AV} {c : Array Value} (hcs : CR C g cs c.toList) (t : TypeId) :
    Done C g own B H w a n L d (setDst d (.v (.ptr H.next 0)) env) (H.new (.obj cs)) (.ok (.value (.pointer (some ⟨w.heap.size, 0, none⟩))) (w.alloc (.cells c t))) := by
  have hN := New.alloc w (.cells c t)
  obtain ⟨hn1, hn2, hn3⟩ := hS.next H.next (Nat.le_refl _)
  let g' : Gh := { g with ob := fun id => if id = H.next then some (w.heap.size, 0) else g.ob id }
  have hle : g.Le g' := ⟨fun _ _ _ h => h, fun id p h => by
    by_cases e : id = H.next
    · subst e; rw [hn2] at h; cases h
    · simp only [g', if_neg e]; exact h, fun _ _ _ h => h⟩
  have hchg : Chg C g own B H w g' (growOwn own w.heap.size fun _ => .heap H.next) (H.new (.obj cs)) (w.alloc (.cells c t)) H.next := by
    refine ⟨hle, fun b o h1 h2 => ?_, fun b es c h1 h2 hm => by rw [hN.old b (hS.lt h1)]; exact hm, fun b o v h => ?_, fun id e => by simp [g', e], fun h => by omega, fun _ _ _ => rfl, fun id e => by simp [Heap.new, e], fun bl hb => ?_, rfl, by simp [Heap.new], by simp [Heap.new], hS.ro, fun b o => ?_, fun b o => ?_, hN.below hS.size⟩
    · have hlt := hS.lt h1
      exact ⟨growOwn_old hS _ h1, hN.cell hlt, hN.frozen hlt⟩
    · obtain ⟨k1, k2⟩ := hS.imm b o v h
      have hne : own b o ≠ .free := by rw [k1]; simp
      exact ⟨by rw [growOwn_old hS _ hne]; exact k1, by rw [hN.cell (hS.lt hne)]; exact k2⟩
    · simp only [Heap.new, if_true, Option.some.injEq] at hb
      subst hb
      refine ⟨w.heap.size, 0, by simp [g'], hcs.one, fun j y hy => ?_⟩
      have hj := (List.getElem?_eq_some_iff.1 hy).1
      have hj' : j < c.size := by have := hcs.len; simp at this; omega
      refine ⟨by simp [growOwn], c[j], by rw [Nat.zero_add, cell_new]; simp [hj'], by rw [frozen_new], ?_⟩
      exact (hcs.rel j y c[j] hy (by simp [hj'])).mono hle
    · simp only [growOwn]
      by_cases hb : b = w.heap.size
      · exact .inr (by have := hN.size; omega)
      · rw [if_neg hb]
        rcases hS.ext b o with h | h
        · exact .inl h
        · exact .inr (by have := hN.size; omega)
    · simp only [growOwn]
      by_cases hb : b = w.heap.size
      · intro _; have := hS.size; omega
      · rw [if_neg hb]; exact hS.base b o
  refine ⟨_, _, _, _, .inl rfl, hchg.toExt, hchg.st hS, (hchg.fr hF).put hd (x := .v (.ptr H.next 0)) ?_ rfl⟩
  exact VR.ptr (C := C) (g := g') H.next 0 w.heap.size 0 (by simp [g'])

theorem done_arr (hS : St C g own B H w) {w1 : World} (hN : New w w1) {c : Array Value} (hcell : ∀ j, w1.cell? ⟨w.heap.size, j, none⟩ = c[j]?) (hfr : ∀ j, w1.frozen? ⟨w.heap.size, j, none⟩ = false)
    {xs : List AV} {sz cap : Nat} (h0 : 0 < sz) (hsz : ∀ x ∈ xs, x.cells.length = sz) (hcap : xs.length ≤ cap) (hcs : CR C g (flat xs) (c.toList.take (xs.length * sz))) (hc : c.size = cap * sz) :
    ∃ g', Chg C g own B H w g' (growOwn own w.heap.size fun _ => .heap H.next) (H.new (.arr false sz xs)) w1 H.next ∧
      VR C g' (.ms H.next xs.length 0 xs.length) (.slice (some ⟨w.heap.size, 0, none⟩) xs.length cap) := by
  obtain ⟨hn1, hn2, hn3⟩ := hS.next H.next (Nat.le_refl _)
  let ph : Ph := ⟨some (w.heap.size, 0), cap, sz⟩
  let g' : Gh := { g with ar := fun id v => if id = H.next then (if v = xs.length then some ph else none) else g.ar id v }
  have hle : g.Le g' := ⟨fun _ _ _ h => h, fun _ _ h => h, fun id v p h => by
    by_cases e : id = H.next
    · subst e; rw [hn3] at h; cases h
    · simp only [g', if_neg e]; exact h⟩
  refine ⟨g', ?_, ?_⟩
  · refine ⟨hle, fun b o h1 h2 => ?_, fun b es c h1 h2 hm => by rw [hN.old b (hS.lt h1)]; exact hm, fun b o v h => ?_, fun _ _ => rfl, fun _ => rfl, fun id e v => by simp [g', e], fun id e => by simp [Heap.new, e], fun bl hb => ?_, rfl, by simp [Heap.new], by simp [Heap.new], hS.ro, fun b o => ?_, fun b o => ?_, hN.below hS.size⟩
    · have hlt := hS.lt h1
      exact ⟨growOwn_old hS _ h1, hN.cell hlt, hN.frozen hlt⟩
    · obtain ⟨k1, k2⟩ := hS.imm b o v h
      have hne : own b o ≠ .free := by rw [k1]; simp
      exact ⟨by rw [growOwn_old hS _ hne]; exact k1, by rw [hN.cell (hS.lt hne)]; exact k2⟩
    · simp only [Heap.new, if_true, Option.some.injEq] at hb
      subst hb
      refine ⟨⟨ph, by simp [g'], rfl, ⟨rfl, h0⟩, hcap, fun i x hx => ⟨hsz x (List.mem_of_getElem? hx), fun e he => hcs.one e (List.mem_flatMap.2 ⟨x, List.mem_of_getElem? hx, he⟩)⟩, fun k hk => ?_, fun i x j y hx hy => ?_⟩, fun v p h => ?_⟩
      · have hk' : k < c.size := by rw [hc]; exact hk
        exact ⟨by simp [growOwn], c[k], by rw [Nat.zero_add, hcell]; simp [hk'], hfr _, trivial⟩
      · have hi := (List.getElem?_eq_some_iff.1 hx).1
        have hj : j < sz := by
          have := (List.getElem?_eq_some_iff.1 hy).1
          have := hsz x (List.mem_of_getElem? hx)
          omega
        have hk := idx_lt hi hcap hj
        have hk' : i * sz + j < c.size := by rw [hc]; exact hk
        have hk2 := idx_lt hi (Nat.le_refl _) hj
        refine ⟨c[i * sz + j], by rw [Nat.zero_add, hcell]; simp [hk'], ?_⟩
        exact (hcs.rel (i * sz + j) y _ (by rw [flat_get hsz hx hj]; exact hy) (by rw [List.getElem?_take, if_pos hk2]; simp [hk'])).mono hle
      · simp only [g', if_true] at h
        split at h
        · rename_i hv; simp at h; subst h; exact ⟨rfl, by omega⟩
        · cases h
    · simp only [growOwn]
      by_cases hb : b = w.heap.size
      · exact .inr (by have := hN.size; omega)
      · rw [if_neg hb]
        rcases hS.ext b o with h | h
        · exact .inl h
        · exact .inr (by have := hN.size; omega)
    · simp only [growOwn]
      by_cases hb : b = w.heap.size
      · intro _; have := hS.size; omega
      · rw [if_neg hb]; exact hS.base b o
  · have := VR.ms (C := C) (g := g') H.next xs.length 0 xs.length w.heap.size 0 cap sz ⟨w.heap.size, 0, none⟩ (by simp [g', ph]) (by omega) ⟨rfl, .inr (by simp)⟩
    simpa using this
end
end Ey

namespace Ey
open Go Go.RowKit

section
variable {C : Cx} {g : Gh} {own : Own} {B : Nat} {H : Heap} {w : World} {env : Env} {a : Act} {n : Nat} {L : List Nat}

inductive PartsM (C : Cx) (g : Gh) : List (Nat × Value) → List (Nat × AV) → Prop
  | nil : PartsM C g [] []
  | cons (i : Nat) (v : Value) (x : AV) (vs xs) (hr : VR C g x v) (h : PartsM C g vs xs) : PartsM C g ((i, v) :: vs) ((i, x) :: xs)

def partsMOK (C : Cx) : List (Nat × Operand) → List (Nat × Opd) → Bool
  | [], [] => true
  | (i, x) :: xs, (j, y) :: ys => i == j && opdOK C x y && partsMOK C xs ys
  | _, _ => false

theorem partsM_rel (hF : Fr C g own w env a.tmps n L) : ∀ {xs : List (Nat × Operand)} {ys : List (Nat × Opd)}, partsMOK C xs ys = true → ∀ {qs : List (Nat × AV)}, allParts env ys = some qs →
    PartsM C g (xs.map fun (i, x) => (i, a.eval x)) qs
  | [], [], _, qs, hq => by simp [allParts] at hq; subst hq; exact .nil
  | [], (_, _) :: _, h, _, _ => by simp [partsMOK] at h
  | (_, _) :: _, [], h, _, _ => by simp [partsMOK] at h
  | (i, x) :: xs, (j, y) :: ys, h, qs, hq => by
    simp only [partsMOK, Bool.and_eq_true, beq_iff_eq] at h
    obtain ⟨⟨rfl, h1⟩, h2⟩ := h
    simp only [allParts] at hq
    split at hq
    · simp at hq
    · rename_i v hv
      simp only [Option.map_eq_some_iff] at hq
      obtain ⟨us, hu, rfl⟩ := hq
      exact .cons i _ v _ _ (av_rel hF h1 hv) (partsM_rel hF h2 hu)

theorem mkl_fill {sz : Nat} (h0 : 0 < sz) {ps : List (Nat × Value)} {qs : List (Nat × AV)} (h : PartsM C g ps qs) :
    ∀ {xs ys : List AV} {ws : Array Value}, (∀ x ∈ xs, x.cells.length = sz) → CR C g (flat xs) ws.toList → mklAV xs qs = some ys →
      (∀ x ∈ ys, x.cells.length = sz) ∧ ys.length = xs.length ∧ ∃ rs, Instr.fill (fun i => some (i * sz, sz)) ws ps = some rs ∧ CR C g (flat ys) rs.toList := by
  induction h with
  | nil => intro xs ys ws hx hc hf; simp [mklAV] at hf; subst hf; exact ⟨hx, rfl, ws, rfl, hc⟩
  | cons i v x vs qs' hr _ ih =>
    intro xs ys ws hx hc hf
    simp only [mklAV] at hf
    split at hf
    · rename_i o ho
      split at hf
      · rename_i hl
        have hi := (List.getElem?_eq_some_iff.1 ho).1
        have hos := hx o (List.mem_of_getElem? ho)
        have hxs : x.cells.length = sz := by omega
        have hk := VR.cells hr (.inl (by intro e; rw [e] at hxs; simp at hxs; omega))
        have hlk := hk.len
        have hlen := hc.len
        have hset : ∀ y ∈ xs.set i x, y.cells.length = sz := fun y hy => by
          rcases List.mem_or_eq_of_mem_set hy with h | h
          · exact hx y h
          · exact h ▸ hxs
        have hfl := flat_len hx
        have hbound : i * sz + sz ≤ xs.length * sz := by
          have : (i + 1) * sz ≤ xs.length * sz := Nat.mul_le_mul_right _ (by omega)
          rw [Nat.add_mul] at this
          omega
        have hput := hc.put hk (i * sz) (by omega)
        rw [← flat_set hx hi hxs] at hput
        have hvs : v.cells.size = sz := by simp at hlk; omega
        have hfold : (v.cells.zipIdx.foldl (fun cs (c, j) => cs.setIfInBounds (i * sz + j) c) ws).toList = ws.toList.take (i * sz) ++ v.cells.toList ++ ws.toList.drop (i * sz + v.cells.toList.length) := by
          rw [← Array.foldl_toList, Array.toList_zipIdx]
          have := foldl_put (i * sz) v.cells.toList 0 ws (by simp at hlen ⊢; omega)
          simpa using this
        rw [← hfold] at hput
        obtain ⟨h1, h2, rs, h3, h4⟩ := ih hset hput hf
        refine ⟨h1, by simpa using h2, rs, ?_, h4⟩
        have hn : ¬ (v.cells.size ≠ sz ∨ i * sz + v.cells.size > ws.size) := by simp at hlen; omega
        simp only [Instr.fill]
        rw [if_neg (by simpa using hn)]
        exact h3
      · simp at hf
    · simp at hf

theorem zero_row {z : AV} {c : Array Value} (hz : CR C g z.cells c.toList) (h0 : 0 < c.size) (m : Nat) :
    CR C g (flat (List.replicate m z)) ((Array.range (m * c.size)).map (c[· % c.size]!)).toList := by
  have hl : z.cells.length = c.size := by simpa using hz.len
  have hsz : ∀ x ∈ List.replicate m z, x.cells.length = c.size := fun x hx => by rw [(List.mem_replicate.1 hx).2]; exact hl
  refine ⟨by rw [flat_len hsz]; simp, fun e he => ?_, fun k x y hx hy => ?_⟩
  · obtain ⟨x, hx, he⟩ := List.mem_flatMap.1 he
    rw [(List.mem_replicate.1 hx).2] at he
    exact hz.one e he
  · have hk : k < m * c.size := by
      have := (List.getElem?_eq_some_iff.1 hx).1
      rw [flat_len hsz] at this
      simpa using this
    have hmod := Nat.mod_lt k h0
    have hdiv : k / c.size < m := (Nat.div_lt_iff_lt_mul h0).2 hk
    have hkk : k = k / c.size * c.size + k % c.size := by rw [Nat.mul_comm]; exact (Nat.div_add_mod k c.size).symm
    have h1 : (List.replicate m z)[k / c.size]? = some z := by rw [List.getElem?_replicate, if_pos hdiv]
    have h2 := flat_get hsz h1 hmod
    rw [← hkk, hx] at h2
    have hy' : y = c[k % c.size] := by
      simp [hk, hmod] at hy
      exact hy.symm
    exact hz.rel _ _ _ h2.symm (by rw [hy']; simp [hmod])

def zeroTy (P : Program) (t : TypeId) (sz : Nat) (z : AV) : Bool :=
  match P.info? t with
  | some i => i.size == sz && decide (0 < sz) && decide (z.cells.length = sz) && (match i.zero with | some v => cv v z | none => false)
  | none => false

theorem zeroTy_is {t : TypeId} {sz : Nat} {z : AV} (h : zeroTy C.P t sz z = true) (g : Gh) : ∃ i v, C.P.info? t = some i ∧ i.size = sz ∧ 0 < sz ∧ z.cells.length = sz ∧ i.zero = some v ∧ VR C g z v := by
  unfold zeroTy at h
  split at h
  · rename_i i hi
    simp only [Bool.and_eq_true, beq_iff_eq, decide_eq_true_eq] at h
    obtain ⟨⟨⟨h1, h2⟩, h3⟩, h4⟩ := h
    split at h4
    · rename_i v hv
      exact ⟨i, v, hi, h1, h2, h3, hv, cv_rel h4⟩
    · simp at h4
  · simp at h

theorem mkl_done (hS : St C g own B H w) (hF : Fr C g own w env a.tmps n L) {d : Option Nat} (hd : dstOK n L d) {t e : TypeId} (ht : C.P.underlying t = some (.slice e)) {sz m : Nat} {z : AV} (hz : zeroTy C.P e sz z = true) (hm : m * sz ≤ 2 ^ 24)
    {xs : List (Nat × Operand)} {ys : List (Nat × Opd)} (hp : partsMOK C xs ys = true) {qs : List (Nat × AV)} (hq : allParts env ys = some qs) {rs : List AV} (hr : mklAV (List.replicate m z) qs = some rs) :
    ∃ r, (do pure (Next.value (← Instr.buildSlice t m (xs.toArray.map fun (i, x) => (i, a.eval x)))) : Sem Next).run C.P w = r ∧ Done C g own B H w a n L d (setDst d (.v (.list false rs)) env) H r := by
  obtain ⟨i, v, hi, hsz, h0, hzl, hiz, hv⟩ := zeroTy_is hz g
  have hcz := VR.cells hv (.inl (by intro e; rw [e] at hzl; simp at hzl; omega))
  have hcs : v.cells.size = sz := by have := hcz.len; simp at this; omega
  have hrow := zero_row hcz (by omega) m
  rw [hcs] at hrow
  obtain ⟨h1, h2, cs, h3, h4⟩ := mkl_fill h0 (partsM_rel hF hp hq) (fun x hx => by rw [(List.mem_replicate.1 hx).2]; exact hzl) hrow hr
  have h2' : rs.length = m := by simpa using h2
  refine ⟨_, rfl, ?_⟩
  have hrun : (Instr.buildSlice t m (xs.toArray.map fun (i, x) => (i, a.eval x))).run C.P w = .ok (.slice (some ⟨w.heap.size, 0, none⟩) m m) (w.alloc (.cells cs e)) := by
    have hpl : (xs.toArray.map fun (i, x) => (i, a.eval x)).toList = xs.map fun (i, x) => (i, a.eval x) := by simp
    generalize (xs.toArray.map fun (i, x) => (i, a.eval x)) = pa at hpl
    have hlim : ¬ (16777216 < m * sz) := by omega
    by_cases hm0 : m * sz = 0
    · have hrz : ∀ f : Nat → Value, (Array.range (m * sz)).map f = #[] := fun f => by rw [hm0]; simp [Array.range_zero']
      rw [hrz] at h3
      simp only [Instr.buildSlice, Sem.run_bind, run_underlying ht, Go.sizeOf, typeInfo, run_program, Result.andThen_ok, hi, Sem.run_pure, hsz]
      simp [hm0, hpl, Array.range_zero', h3, newRow]
    · simp only [Instr.buildSlice, Sem.run_bind, run_underlying ht, Go.sizeOf, typeInfo, run_program, Result.andThen_ok, hi, Sem.run_pure, hsz]
      simp [hlim, hm0, hpl, zeroValue, typeInfo, hi, hiz, newRow]
      rw [hcs]
      have h3' : Instr.fill (fun i => some (i * sz, sz)) (Array.map (fun x => v.cells[x % sz]!) (Array.range (m * sz))) (List.map (fun x => (x.fst, a.eval x.snd)) xs) = some cs := h3
      rw [h3']
      simp
  simp only [Sem.run_bind, hrun, Result.andThen_ok]
  have := done_list hS hF hd h0 h1 h4 e
  rw [h2'] at this
  exact this

theorem putAt_get {cs new : List AV} {off : Nat} (h : off + new.length ≤ cs.length) (j : Nat) : (putAt cs off new)[j]? = if off ≤ j ∧ j < off + new.length then new[j - off]? else cs[j]? := by
  unfold putAt
  by_cases h1 : j < off
  · rw [if_neg (by omega), List.append_assoc, List.getElem?_append_left (by simp; omega), List.getElem?_take, if_pos h1]
  · rw [List.append_assoc, List.getElem?_append_right (by simp; omega)]
    simp only [List.length_take]
    rw [Nat.min_eq_left (by omega)]
    by_cases h2 : j - off < new.length
    · rw [if_pos ⟨by omega, by omega⟩, List.getElem?_append_left h2]
    · rw [if_neg (by omega), List.getElem?_append_right (by omega), List.getElem?_drop]
      congr 1
      omega

theorem putAt_mem {cs new : List AV} {off : Nat} {c : AV} (h : c ∈ putAt cs off new) : c ∈ cs ∨ c ∈ new := by
  simp only [putAt, List.mem_append] at h
  rcases h with (h | h) | h
  · exact .inl (List.mem_of_mem_take h)
  · exact .inr h
  · exact .inl (List.mem_of_mem_drop h)

theorem cells_wr {w' : World} {ow : Owner} {b o off : Nat} {cs new : List AV} {vs : List Value} (hc : CellsAt C g own w ow b o cs) (hle : off + new.length ≤ cs.length) (hn : CR C g new vs) (hW : Wr w w' b (o + off) vs) :
    CellsAt C g own w' ow b o (putAt cs off new) := by
  have hlen := hn.len
  refine ⟨fun c h => (putAt_mem h).elim (hc.1 c) (hn.one c), fun j y hy => ?_⟩
  rw [putAt_get hle] at hy
  split at hy
  · rename_i h1
    have hlt : j < cs.length := by omega
    obtain ⟨k1, v, k2, k3, k4⟩ := hc.2 j _ (List.getElem?_eq_getElem hlt)
    have hjv : j - off < vs.length := by omega
    have hin := hW.inn (j - off) _ (List.getElem?_eq_getElem hjv)
    rw [show o + off + (j - off) = o + j by omega] at hin
    exact ⟨k1, _, hin, by rw [hW.frozen]; exact k3, hn.rel _ y _ hy (List.getElem?_eq_getElem hjv)⟩
  · rename_i h1
    obtain ⟨k1, v, k2, k3, k4⟩ := hc.2 j y hy
    exact ⟨k1, v, by rw [hW.out b (o + j) (by omega)]; exact k2, by rw [hW.frozen]; exact k3, k4⟩

theorem cells_out {w' : World} {ow ow' : Owner} (hne : ow ≠ ow') {b o b' o' : Nat} {cs : List AV} {vs : List Value} (hc : CellsAt C g own w ow b o cs) (hW : Wr w w' b' o' vs) (how : ∀ j, j < vs.length → own b' (o' + j) = ow') :
    CellsAt C g own w' ow b o cs := by
  refine ⟨hc.1, fun j y hy => ?_⟩
  obtain ⟨k1, v, k2, k3, k4⟩ := hc.2 j y hy
  refine ⟨k1, v, ?_, by rw [hW.frozen]; exact k3, k4⟩
  rw [hW.out b (o + j) ?_]
  · exact k2
  · rintro ⟨rfl, h1, h2⟩
    have := how (o + j - o') (by omega)
    rw [show o' + (o + j - o') = o + j by omega] at this
    exact hne (k1.symm.trans this)

theorem own_out {ow ow' : Owner} (hne : ow ≠ ow') {w' : World} {b o b' o' : Nat} {vs : List Value} (ho : own b o = ow) (hW : Wr w w' b' o' vs) (how : ∀ j, j < vs.length → own b' (o' + j) = ow') :
    w'.cell? ⟨b, o, none⟩ = w.cell? ⟨b, o, none⟩ := by
  refine hW.out b o ?_
  rintro ⟨rfl, h1, h2⟩
  have := how (o - o') (by omega)
  rw [show o' + (o - o') = o by omega] at this
  exact hne (ho.symm.trans this)

theorem St.wr_slot (hS : St C g own B H w) {w' : World} {b o s : Nat} {vs : List Value} (hW : Wr w w' b o vs) (how : ∀ j, j < vs.length → own b (o + j) = .slot s) : St C g own B H w' where
  imm := fun b' o' v h => by
    obtain ⟨h1, h2⟩ := hS.imm b' o' v h
    exact ⟨h1, by rw [own_out (by simp) h1 hW how]; exact h2⟩
  obj := fun id cs h => by
    obtain ⟨b', o', h1, h2⟩ := hS.obj id cs h
    exact ⟨b', o', h1, cells_out (by simp) h2 hW how⟩
  arr := fun id nl sz xs h => by
    obtain ⟨⟨ph, h1, h2, h3⟩, h4⟩ := hS.arr id nl sz xs h
    refine ⟨⟨ph, h1, h2, ?_⟩, h4⟩
    cases hp : ph.base with
    | none => rw [hp] at h3; exact h3
    | some p =>
      obtain ⟨b', o'⟩ := p
      rw [hp] at h3
      obtain ⟨k1, k2, k3, k4, k5⟩ := h3
      refine ⟨k1, k2, k3, fun k hk => ?_, fun i x j y hx hy => ?_⟩
      · obtain ⟨m1, v, m2, m3, m4⟩ := k4 k hk
        exact ⟨m1, v, by rw [own_out (by simp) m1 hW how]; exact m2, by rw [hW.frozen]; exact m3, m4⟩
      · obtain ⟨v, m1, m2⟩ := k5 i x j y hx hy
        have hi := (List.getElem?_eq_some_iff.1 hx).1
        have hj : j < sz := by
          have := (List.getElem?_eq_some_iff.1 hy).1
          have := (k3 i x hx).1
          omega
        have hk := (k4 (i * sz + j) (idx_lt hi k2 hj)).1
        rw [← Nat.add_assoc] at hk
        exact ⟨v, by rw [own_out (by simp) hk hW how]; exact m1, m2⟩
  mp := fun id es h => (hS.mp id es h).step (.refl g) (fun _ hb => hb) fun _ _ _ _ hm => hW.maps _ _ _ hm
  next := hS.next
  ext := fun b' o' => by rw [hW.size]; exact hS.ext b' o'
  base := hS.base
  size := by rw [hW.size]; exact hS.size
  ro := hS.ro
  gl := hS.gl

end
end Ey

namespace Ey
open Go Go.RowKit

section
variable {C : Cx} {g : Gh} {own : Own} {B : Nat} {H : Heap} {w : World} {env : Env} {a : Act} {n : Nat} {L : List Nat}

theorem chg_wr (hS : St C g own B H w) {w' : World} {b o id : Nat} {vs : List Value} (hW : Wr w w' b o vs) (how : ∀ j, j < vs.length → own b (o + j) = .heap id) (hlt : id < H.next) (hro : H.ro ≤ id)
    {g' : Gh} (hle : g.Le g') (hG : g'.G = g.G) (hob : g'.ob = g.ob) (har : ∀ i, i ≠ id → ∀ n, g'.ar i n = g.ar i n) {bl' : Option Blk} (hn : ∀ bl, bl' = some bl → BlkR C g' own w' id bl) (hbel : Below B w w') :
    Chg C g own B H w g' own (H.put id bl') w' id where
  le := hle
  keep := fun b' o' h1 h2 => ⟨rfl, own_out h2 rfl hW how, hW.frozen _⟩
  maps := fun b' es c _ _ h => hW.maps _ _ _ h
  G := fun b' o' v h => by
    rw [hG] at h
    obtain ⟨h1, h2⟩ := hS.imm b' o' v h
    exact ⟨h1, by rw [own_out (by simp) h1 hW how]; exact h2⟩
  ob := fun _ _ => by rw [hob]
  ob0 := fun _ => by rw [hob]
  ar := har
  get := fun i hi => by simp [Heap.put, hi]
  new := fun bl h => hn bl (by simpa [Heap.put] using h)
  ro := rfl
  next := Nat.le_refl _
  lt := hlt
  ge := hro
  ext := fun b' o' => by rw [hW.size]; exact hS.ext b' o'
  base := hS.base
  below := hbel

theorem get_lt (hS : St C g own B H w) {id : Nat} {bl : Blk} (h : H.get id = some bl) : id < H.next := by
  rcases Nat.lt_or_ge id H.next with h1 | h1
  · exact h1
  · rw [(hS.next id h1).1] at h; cases h

theorem cells_one_all {x : AV} {v : Value} (h : VR C g x v) (hl : x.cells ≠ []) : ∀ u ∈ v.cells.toList, u.oneCell' = true := by
  have hc := VR.cells h (.inl hl)
  intro u hu
  obtain ⟨j, hj, rfl⟩ := List.mem_iff_getElem.1 hu
  have hj' : j < x.cells.length := by rw [hc.len]; exact hj
  exact (hc.rel j _ _ (List.getElem?_eq_getElem hj') (List.getElem?_eq_getElem hj)).oneCell (hc.one _ (List.getElem_mem hj'))

theorem putElem_cells {x : AV} {off : Nat} {new : List AV} (h0 : 0 < new.length) (hle : off + new.length ≤ x.cells.length) (h1 : ∀ c ∈ new, c.one = true) : (putElem x off new).cells = putAt x.cells off new := by
  unfold putElem
  split
  · rename_i h
    obtain ⟨h2, rfl⟩ := h
    have hp : putAt x.cells 0 new = new := by simp [putAt, h2]
    rw [hp]
    split
    · rfl
    · rename_i hx
      have hl : x.cells.length = 1 := by
        cases x <;> first | rfl | (simp only [AV.cells, List.length_nil] at hle; omega) | exact absurd rfl (hx _)
      match new, h2.symm.trans hl with
      | [c], _ => simp [AV.one_cells (h1 c (by simp))]
  · rfl

theorem st_done (hS : St C g own B H w) (hF : Fr C g own w env a.tmps n L) {t : TypeId} {sz : Nat} (hsz : (Go.sizeOf t).run C.P w = .ok sz w) (h0 : 0 < sz) {x y : Operand} {x' y' : Opd} (hx : opdOK C x x' = true) (hy : opdOK C y y' = true)
    {z : AV} (hz : env.av y' = some z) (hl : z.cells.length = sz) {e' : Env} {H' : Heap} (hst : stS env H z.cells (env.sl x') = some (e', H')) :
    ∃ r, (do Instr.storeAt t (a.eval x) (a.eval y); pure Next.skip : Sem Next).run C.P w = r ∧ Done C g own B H w a n L none e' H' r := by
  have hv := av_rel hF hy hz
  have hs := sl_rel hF hx rfl (s := env.sl x') (by intro h; rw [h] at hst; simp [stS] at hst)
  generalize a.eval x = vx at hs ⊢
  generalize a.eval y = vy at hv ⊢
  have hne : z.cells ≠ [] := by intro e; rw [e] at hl; simp at hl; omega
  have hcr := VR.cells hv (.inl hne)
  have hone := cells_one_all hv hne
  have hvl : vy.cells.size = sz := by have := hcr.len; simp at this; omega
  have hvl' : vy.cells.toList.length = sz := by simpa using hvl
  have go : ∀ b o, vx = .pointer (some ⟨b, o, none⟩) → (storeVar t ⟨b, o, none⟩ vy).run C.P w = .ok () (w.setCells b o vy.cells.toList) →
      (do Instr.storeAt t vx vy; pure Next.skip : Sem Next).run C.P w = .ok .skip (w.setCells b o vy.cells.toList) := by
    intro b o h1 h2
    subst h1
    simp [Instr.storeAt, Instr.sureAddr, h2]
  refine ⟨_, rfl, ?_⟩
  unfold stS at hst
  split at hst
  · rename_i s off hq
    rw [hq] at hs
    obtain ⟨cs, b, o, h1, h2, h3⟩ := hs
    simp only [h1] at hst
    split at hst
    · rename_i hle
      simp only [Option.some.injEq, Prod.mk.injEq] at hst
      obtain ⟨rfl, rfl⟩ := hst
      have h4 := hF.slots s
      simp only [SlotOK, h1] at h4
      obtain ⟨b', o', h5, h6⟩ := h4
      rw [h5] at h2; simp at h2; obtain ⟨rfl, rfl⟩ := h2
      have hcell : ∀ j, j < sz → own b' (o' + off + j) = .slot s ∧ ∃ u, w.cell? ⟨b', o' + off + j, none⟩ = some u ∧ w.frozen? ⟨b', o' + off + j, none⟩ = false := fun j hj => by
        have hjl : off + j < cs.length := by omega
        obtain ⟨k1, u, k2, k3, _⟩ := h6.2 (off + j) _ (List.getElem?_eq_getElem hjl)
        rw [← Nat.add_assoc] at k1 k2 k3
        exact ⟨k1, u, k2, k3⟩
      obtain ⟨hrun, hW⟩ := run_storeVar_at hsz (b := b') (o := o' + off) hvl hone (fun j hj => (hcell j hj).2)
      rw [go _ _ h3 hrun]
      have how : ∀ j, j < vy.cells.toList.length → own b' (o' + off + j) = .slot s := fun j hj => (hcell j (by omega)).1
      have hB : B ≤ b' := hS.base b' (o' + off + 0) ⟨s, .inr (hcell 0 h0).1⟩
      refine ⟨g, own, _, undef, .inr ⟨rfl, rfl⟩, ?_, hS.wr_slot hW how, ?_⟩
      · refine ⟨.refl g, fun _ _ => rfl, fun _ _ _ => rfl, fun _ _ => rfl, rfl, Nat.le_refl _, fun b o hb => ⟨hb, own_out (by simp) hb hW how, hW.frozen _⟩, hW.below B hB, fun _ _ _ _ hm => hW.maps _ _ _ hm⟩
      · rw [put_tmps]
        have hget : ∀ q, Env.get ((s, Sl.lv (putAt cs off z.cells)) :: env) q = if q = s then .lv (putAt cs off z.cells) else env.get q := fun q => rfl
        refine ⟨hF.size, fun q => ?_, fun q cs' hq' => ?_, hF.gl⟩
        · simp only [SlotOK, hget]
          by_cases hqs : q = s
          · subst hqs
            rw [if_pos rfl]
            exact ⟨b', o', h5, cells_wr h6 (by omega) hcr hW⟩
          · rw [if_neg hqs]
            have h := hF.slots q
            simp only [SlotOK] at h
            cases he : env.get q with
            | no => trivial
            | un => rw [he] at h; exact h
            | v y => rw [he] at h; exact h
            | lv cs' =>
              rw [he] at h
              obtain ⟨b2, o2, k1, k2⟩ := h
              exact ⟨b2, o2, k1, cells_out (by simpa using hqs) k2 hW how⟩
            | lp s' off' =>
              rw [he] at h
              obtain ⟨cs', b2, o2, k1, k2, k3⟩ := h
              by_cases hss : s' = s
              · subst hss
                exact ⟨_, b2, o2, if_pos rfl, k2, k3⟩
              · exact ⟨cs', b2, o2, (if_neg hss).trans k1, k2, k3⟩
        · rw [hget] at hq'
          by_cases hqs : q = s
          · subst hqs; exact hF.lvs _ _ h1
          · rw [if_neg hqs] at hq'; exact hF.lvs q cs' hq'
    · simp at hst
  · rename_i id off hq
    rw [hq] at hs
    split at hst
    · simp at hst
    · rename_i hro
      split at hst
      · rename_i cs hg
        split at hst
        · rename_i hle
          simp only [Option.some.injEq, Prod.mk.injEq] at hst
          obtain ⟨rfl, rfl⟩ := hst
          cases hs with
          | ptr _ _ b o hb =>
            obtain ⟨b', o', h1, h6⟩ := hS.obj _ _ hg
            rw [hb] at h1; simp at h1; obtain ⟨rfl, rfl⟩ := h1
            have hcell : ∀ j, j < sz → own b (o + off + j) = .heap id ∧ ∃ u, w.cell? ⟨b, o + off + j, none⟩ = some u ∧ w.frozen? ⟨b, o + off + j, none⟩ = false := fun j hj => by
              have hjl : off + j < cs.length := by omega
              obtain ⟨k1, u, k2, k3, _⟩ := h6.2 (off + j) _ (List.getElem?_eq_getElem hjl)
              rw [← Nat.add_assoc] at k1 k2 k3
              exact ⟨k1, u, k2, k3⟩
            obtain ⟨hrun, hW⟩ := run_storeVar_at hsz (b := b) (o := o + off) hvl hone (fun j hj => (hcell j hj).2)
            rw [go _ _ rfl hrun]
            have how : ∀ j, j < vy.cells.toList.length → own b (o + off + j) = .heap id := fun j hj => (hcell j (by omega)).1
            have hB : B ≤ b := hS.base b (o + off + 0) ⟨id, .inl (hcell 0 h0).1⟩
            have hchg := chg_wr hS hW how (get_lt hS hg) (by omega) (.refl g) rfl rfl (fun _ _ _ => rfl) (bl' := some (.obj (putAt cs off z.cells))) (fun bl h => by
              simp only [Option.some.injEq] at h; subst h
              exact ⟨b, o, hb, cells_wr h6 (by omega) hcr hW⟩) (hW.below B hB)
            exact ⟨g, own, _, undef, .inr ⟨rfl, rfl⟩, hchg.toExt, hchg.st hS, hchg.fr hF⟩
        · simp at hst
      · simp at hst
  · rename_i id ver i off hq
    rw [hq] at hs
    split at hst
    · simp at hst
    · rename_i hro
      split at hst
      · rename_i nl zz xs hg
        split at hst
        · rename_i hver
          split at hst
          · rename_i x0 hx0
            split at hst
            · rename_i hle
              simp only [Option.some.injEq, Prod.mk.injEq] at hst
              obtain ⟨rfl, rfl⟩ := hst
              cases hs with
              | ap _ _ _ _ b o cap sz' hb =>
                obtain ⟨⟨ph, h1, h2, h3⟩, h4⟩ := hS.arr _ _ _ _ hg
                subst hver
                rw [hb] at h1; simp at h1; subst h1
                simp only at h2 h3
                subst h2
                obtain ⟨k1, k2, k3, k4, k5⟩ := h3
                have hi := (List.getElem?_eq_some_iff.1 hx0).1
                have hx0l := (k3 i x0 hx0).1
                have hcell : ∀ j, j < sz → own b (o + i * sz' + off + j) = .heap id ∧ ∃ u, w.cell? ⟨b, o + i * sz' + off + j, none⟩ = some u ∧ w.frozen? ⟨b, o + i * sz' + off + j, none⟩ = false := fun j hj => by
                  have hk : i * sz' + (off + j) < cap * sz' := idx_lt hi k2 (by omega)
                  obtain ⟨m1, u, m2, m3, _⟩ := k4 _ hk
                  rw [show o + (i * sz' + (off + j)) = o + i * sz' + off + j by omega] at m1 m2 m3
                  exact ⟨m1, u, m2, m3⟩
                obtain ⟨hrun, hW⟩ := run_storeVar_at hsz (b := b) (o := o + i * sz' + off) hvl hone (fun j hj => (hcell j hj).2)
                rw [go _ _ rfl hrun]
                have how : ∀ j, j < vy.cells.toList.length → own b (o + i * sz' + off + j) = .heap id := fun j hj => (hcell j (by omega)).1
                have hB : B ≤ b := hS.base b (o + i * sz' + off + 0) ⟨id, .inl (hcell 0 h0).1⟩
                have hpc := putElem_cells (x := x0) (off := off) (new := z.cells) (by omega) hle hcr.one
                have hnewget : ∀ (q : Nat) (x : AV), (xs.set i (putElem x0 off z.cells))[q]? = some x → (q = i ∧ x = putElem x0 off z.cells) ∨ (q ≠ i ∧ xs[q]? = some x) := fun q x hq => by
                  rw [List.getElem?_set] at hq
                  split at hq
                  · rename_i he
                    simp at hq
                    exact .inl ⟨he.symm, hq.symm⟩
                  · rename_i he
                    exact .inr ⟨fun e => he e.symm, hq⟩
                have hchg := chg_wr hS hW how (get_lt hS hg) (by omega) (.refl g) rfl rfl (fun _ _ _ => rfl) (bl' := some (.arr nl sz' (xs.set i (putElem x0 off z.cells)))) (fun bl h => by
                  simp only [Option.some.injEq] at h; subst h
                  refine ⟨⟨⟨some (b, o), cap, sz'⟩, by simpa using hb, rfl, k1, by simpa using k2, fun q x hq => ?_, fun k hk => ?_, fun q x j y hq hy => ?_⟩, by simpa using h4⟩
                  · rcases hnewget q x hq with ⟨_, rfl⟩ | ⟨_, hq'⟩
                    · rw [hpc]
                      refine ⟨by simp [putAt]; omega, fun c hc => (putAt_mem hc).elim ((k3 i x0 hx0).2 c) (hcr.one c)⟩
                    · exact k3 q x hq'
                  · obtain ⟨m1, u, m2, m3, m4⟩ := k4 k hk
                    by_cases hin : o + i * sz' + off ≤ o + k ∧ o + k < o + i * sz' + off + vy.cells.toList.length
                    · have hjv : o + k - (o + i * sz' + off) < vy.cells.toList.length := by omega
                      have := hW.inn _ _ (List.getElem?_eq_getElem hjv)
                      rw [show o + i * sz' + off + (o + k - (o + i * sz' + off)) = o + k by omega] at this
                      exact ⟨m1, _, this, by rw [hW.frozen]; exact m3, trivial⟩
                    · exact ⟨m1, u, by rw [hW.out b (o + k) (by rintro ⟨_, p1, p2⟩; exact hin ⟨p1, p2⟩)]; exact m2, by rw [hW.frozen]; exact m3, m4⟩
                  · rcases hnewget q x hq with ⟨rfl, rfl⟩ | ⟨hne', hq'⟩
                    · rw [hpc, putAt_get hle] at hy
                      split at hy
                      · rename_i hin
                        have hjv : j - off < vy.cells.toList.length := by omega
                        have := hW.inn _ _ (List.getElem?_eq_getElem hjv)
                        rw [show o + q * sz' + off + (j - off) = o + q * sz' + j by omega] at this
                        exact ⟨_, this, hcr.rel _ y _ hy (List.getElem?_eq_getElem hjv)⟩
                      · rename_i hin
                        obtain ⟨v, p1, p2⟩ := k5 q x0 j y hx0 hy
                        exact ⟨v, by rw [hW.out b (o + q * sz' + j) (by rintro ⟨_, p3, p4⟩; omega)]; exact p1, p2⟩
                    · obtain ⟨v, p1, p2⟩ := k5 q x j y hq' hy
                      have hj : j < sz' := by
                        have := (List.getElem?_eq_some_iff.1 hy).1
                        have := (k3 q x hq').1
                        omega
                      refine ⟨v, ?_, p2⟩
                      rw [hW.out b (o + q * sz' + j) ?_]
                      · exact p1
                      · rintro ⟨_, p3, p4⟩
                        rcases Nat.lt_or_gt_of_ne hne' with h | h
                        · have : (q + 1) * sz' ≤ i * sz' := Nat.mul_le_mul_right _ (by omega)
                          rw [Nat.add_mul] at this
                          omega
                        · have : (i + 1) * sz' ≤ q * sz' := Nat.mul_le_mul_right _ (by omega)
                          rw [Nat.add_mul] at this
                          omega) (hW.below B hB)
                exact ⟨g, own, _, undef, .inr ⟨rfl, rfl⟩, hchg.toExt, hchg.st hS, hchg.fr hF⟩
            · simp at hst
          · simp at hst
        · simp at hst
      · simp at hst
  · simp at hst
end
end Ey

namespace Ey
open Go Go.RowKit

section
variable {C : Cx} {g : Gh} {own : Own} {B : Nat} {H : Heap} {w : World} {env : Env} {a : Act} {n : Nat} {L : List Nat}

theorem gather_cells {w : World} {b o m : Nat} {p : Nat → Value → Prop} (h : ∀ k, k < m → ∃ v, w.cell? ⟨b, o + k, none⟩ = some v ∧ p k v) :
    ∃ vs : List Value, vs.length = m ∧ (∀ k v, vs[k]? = some v → w.cell? ⟨b, o + k, none⟩ = some v ∧ p k v) := gather m h

theorem flat_bytes : ∀ s : List UInt8, flat (s.map fun b => AV.int .u8 b.toNat) = s.map fun b => AV.int .u8 b.toNat
  | [] => rfl
  | b :: s => by
    have := flat_bytes s
    simp only [flat, List.map_cons, List.flatMap_cons, AV.cells] at this ⊢
    rw [this]; rfl

theorem elems_run (hS : St C g own B H w) {sz : Nat} (h0 : 0 < sz) {x : AV} {v : Value} (hx : VR C g x v) {ys : List AV} (hy : elemsOf H sz x = some ys) :
    (Builtin.lenOf v).run C.P w = .ok ys.length w ∧ (∀ y ∈ ys, y.cells.length = sz) ∧ ∃ news : List Value, CR C g (flat ys) news ∧
      ∀ w1 : World, (∀ q, w1.cell? q = w.cell? q) → (Builtin.firstCells sz ys.length v).run C.P w1 = .ok news.toArray w1 := by
  have fromCells : ∀ (b o : Nat) (zs : List AV) (len cap : Nat), (∀ y ∈ zs, y.cells.length = sz ∧ ∀ c ∈ y.cells, c.one = true) →
      (∀ (i : Nat) (y : AV) (j : Nat) (c : AV), zs[i]? = some y → y.cells[j]? = some c → ∃ u, w.cell? ⟨b, o + i * sz + j, none⟩ = some u ∧ VR C g c u) →
      ∃ news : List Value, CR C g (flat zs) news ∧ ∀ w1 : World, (∀ q, w1.cell? q = w.cell? q) → (Builtin.firstCells sz zs.length (.slice (some ⟨b, o, none⟩) len cap)).run C.P w1 = .ok news.toArray w1 := by
    intro b o zs len cap h1 h2
    have hsz : ∀ y ∈ zs, y.cells.length = sz := fun y hy => (h1 y hy).1
    have hone : ∀ c ∈ flat zs, c.one = true := fun c hc => by
      obtain ⟨y, hy, hc⟩ := List.mem_flatMap.1 hc
      exact (h1 y hy).2 c hc
    obtain ⟨vs, hl, hv⟩ := gather_cells (w := w) (b := b) (o := o) (m := zs.length * sz) (p := fun k u => ∀ c, (flat zs)[k]? = some c → VR C g c u) (fun k hk => by
      have hdiv : k / sz < zs.length := (Nat.div_lt_iff_lt_mul h0).2 hk
      have hmod := Nat.mod_lt k h0
      have hkk : k / sz * sz + k % sz = k := by rw [Nat.mul_comm]; exact Nat.div_add_mod k sz
      have hg := List.getElem?_eq_getElem hdiv
      have hj : k % sz < (zs[k / sz]).cells.length := by rw [hsz _ (List.getElem_mem hdiv)]; exact hmod
      obtain ⟨u, h3, h4⟩ := h2 _ _ _ _ hg (List.getElem?_eq_getElem hj)
      rw [Nat.add_assoc, hkk] at h3
      refine ⟨u, h3, fun c hc => ?_⟩
      have := flat_get hsz hg hmod
      rw [hkk, hc, List.getElem?_eq_getElem hj] at this
      simp at this
      exact this ▸ h4)
    refine ⟨vs, ⟨by rw [flat_len hsz, hl], hone, fun k c u hc hu => (hv k u hu).2 c hc⟩, fun w1 hw1 => ?_⟩
    refine run_firstCells_some w1 sz zs.length ⟨b, o, none⟩ len cap vs hl (fun j u hu => ?_)
    rw [add_at, hw1]
    exact (hv j u hu).1
  unfold elemsOf at hy
  split at hy
  · rename_i nl xs
    split at hy
    · rename_i hall
      simp at hy; subst hy
      cases hx with
      | nil => exact ⟨rfl, fun y hy => by simp at hy, [], ⟨rfl, fun c hc => by simp [flat] at hc, fun i x y hx => by simp [flat] at hx⟩, fun w1 _ => by simp [run_firstCells_none]⟩
      | list _ b o cap sz' f hc hs hne hG hv =>
        have hsz : ∀ y ∈ xs, y.cells.length = sz := fun y hy => by simpa using List.all_eq_true.1 hall y hy
        refine ⟨rfl, hsz, fromCells b o xs _ _ (fun y hy => ?_) (fun i y j c hi hj => ?_)⟩
        · obtain ⟨i, hi, rfl⟩ := List.mem_iff_getElem.1 hy
          exact ⟨hsz _ hy, (hs i _ (List.getElem?_eq_getElem hi)).2⟩
        · have h1 := (hs i y hi).1
          have h2 := hsz y (List.mem_of_getElem? hi)
          have hjl := (List.getElem?_eq_some_iff.1 hj).1
          have : sz' = sz := by omega
          subst this
          exact ⟨f i j, (hS.imm _ _ _ (hG i j (List.getElem?_eq_some_iff.1 hi).1 (by omega))).2, hv i j y c hi hj⟩
    · simp at hy
  · simp at hy; subst hy
    cases hx with
    | cap0 ad =>
      refine ⟨rfl, fun y hy => by simp at hy, [], ⟨rfl, fun c hc => by simp [flat] at hc, fun i x y hx => by simp [flat] at hx⟩, fun w1 _ => ?_⟩
      simp [Builtin.firstCells, loadCells, loadCellsFrom]
  · rename_i s
    split at hy
    · rename_i h1
      simp at hy; subst hy
      obtain ⟨bs, rfl, hs⟩ := str_inv hx
      subst h1
      have hl : s.length = bs.size := by rw [← hs]; exact Array.length_toList
      refine ⟨by simp [Builtin.lenOf, hl], fun y hy => ?_, (s.map fun b => Value.int .u8 b.toNat), ⟨?_, fun c hc => ?_, fun i x y hx hy => ?_⟩, fun w1 _ => ?_⟩
      · obtain ⟨b, _, rfl⟩ := List.mem_map.1 hy; rfl
      · rw [flat_bytes]; simp
      · obtain ⟨y, hy, hc⟩ := List.mem_flatMap.1 hc
        obtain ⟨b, _, rfl⟩ := List.mem_map.1 hy
        simp [AV.cells] at hc
        subst hc; rfl
      · rw [flat_bytes] at hx
        simp only [List.getElem?_map, Option.map_eq_some_iff] at hx hy
        obtain ⟨b1, e1, rfl⟩ := hx
        obtain ⟨b2, e2, rfl⟩ := hy
        rw [e1] at e2
        simp at e2
        subst e2
        exact .int _ _
      · simp only [Builtin.firstCells, Sem.run_pure, List.length_map, hl]
        congr 1
        apply Array.ext'
        simp [← hs]
    · simp at hy
  · rename_i id ver lo len
    split at hy
    · rename_i nl z xs hg
      split at hy
      · rename_i hh
        obtain ⟨rfl, hver, hle⟩ := hh
        simp at hy; subst hy
        obtain ⟨⟨ph, h1, h2, h3⟩, h4⟩ := hS.arr _ _ _ _ hg
        rw [hver] at h1
        have hlen : ((xs.drop lo).take len).length = len := by simp; omega
        cases hx with
        | msNil _ sz' hh' =>
          simp
          refine ⟨rfl, [], ⟨rfl, fun c hc => by simp [flat] at hc, fun i x y hx => by simp [flat] at hx⟩, fun w1 _ => by simp [run_firstCells_none]⟩
        | ms _ _ _ _ b o cap sz' ad hh' hlc ha =>
          rw [hh'] at h1; simp at h1; subst h1
          simp only at h2 h3
          subst h2
          obtain ⟨k1, k2, k3, k4, k5⟩ := h3
          have hget : ∀ (i : Nat) (x : AV), ((xs.drop lo).take len)[i]? = some x → xs[lo + i]? = some x := by
            intro i x hx
            have hi : i < len := by
              have := (List.getElem?_eq_some_iff.1 hx).1
              omega
            rwa [List.getElem?_take, if_pos hi, List.getElem?_drop] at hx
          have hmem : ∀ y ∈ (xs.drop lo).take len, y.cells.length = sz' ∧ ∀ c ∈ y.cells, c.one = true := fun y hy => by
            obtain ⟨i, hi, rfl⟩ := List.mem_iff_getElem.1 hy
            exact k3 _ _ (hget i _ (List.getElem?_eq_getElem hi))
          refine ⟨by rw [hlen]; rfl, fun y hy => (hmem y hy).1, ?_⟩
          by_cases hz : len = 0
          · subst hz
            simp only [List.take_zero, List.length_nil]
            refine ⟨[], ⟨rfl, fun c hc => by simp [flat] at hc, fun i x y hx => by simp [flat] at hx⟩, fun w1 _ => ?_⟩
            simp [Builtin.firstCells, loadCells, loadCellsFrom]
          · have had : ad = ⟨b, o + lo * sz', none⟩ := ha.2.resolve_left (by omega)
            subst had
            have := fromCells b (o + lo * sz') ((xs.drop lo).take len) len (cap - lo) hmem (fun i y j c hi hj => by
              obtain ⟨u, p1, p2⟩ := k5 (lo + i) y j c (hget i y hi) hj
              exact ⟨u, by rw [show o + lo * sz' + i * sz' + j = o + (lo + i) * sz' + j by rw [Nat.add_mul]; omega]; exact p1, p2⟩)
            simpa [hlen] using this
      · simp at hy
    · simp at hy
  · simp at hy

def SrcTy (d : TypeDesc) : Prop := (∃ e, d = .slice e) ∨ d = .string

def appOK (P : Program) (t tx : TypeId) (sz : Nat) : Bool :=
  match P.underlying t, P.underlying tx with
  | some (.slice e), some d => (match P.info? e with
      | some i => i.size == sz && decide (0 < sz) && decide (i.bytes ≤ 65536) && (match i.zero with | some z => z.cells.size == sz | none => false)
      | none => false) && (match d with | .slice _ => true | .string => true | _ => false)
  | _, _ => false

theorem appOK_is {P : Program} {t tx : TypeId} {sz : Nat} (h : appOK P t tx sz = true) : ∃ e d i z, P.underlying t = some (.slice e) ∧ P.underlying tx = some d ∧ SrcTy d ∧ P.info? e = some i ∧ i.size = sz ∧ 0 < sz ∧ i.bytes ≤ 65536 ∧
    i.zero = some z ∧ z.cells.size = sz := by
  unfold appOK at h
  split at h
  · rename_i e d hu hx
    simp only [Bool.and_eq_true] at h
    obtain ⟨h1, h2⟩ := h
    split at h1
    · rename_i i hi
      simp only [Bool.and_eq_true, beq_iff_eq, decide_eq_true_eq] at h1
      obtain ⟨⟨⟨h3, h4⟩, h5⟩, h6⟩ := h1
      split at h6
      · rename_i z hz
        exact ⟨e, d, i, z, hu, hx, by cases d <;> simp at h2 <;> simp [SrcTy], hi, h3, h4, h5, hz, by simpa using h6⟩
      · simp at h6
    · simp at h1
  · simp at h

theorem run_app_room {t tx ty e : TypeId} {d : TypeDesc} {i : TypeInfo} {sz : Nat} (hu : C.P.underlying t = some (.slice e)) (hx : C.P.underlying tx = some d) (hd : SrcTy d) (hi : C.P.info? e = some i) (hsz : i.size = sz)
    {v : Value} {m : Nat} (hm : (Builtin.lenOf v).run C.P w = .ok m w) {news : List Value} (hf : (Builtin.firstCells sz m v).run C.P w = .ok news.toArray w) {b o sLen sCap : Nat} (hroom : sLen + m ≤ sCap)
    (hc : ∀ k, k < news.length → (w.cell? ⟨b, o + sLen * sz + k, none⟩).isSome = true) (hfr : ∀ k, k < news.length → w.frozen? ⟨b, o + sLen * sz + k, none⟩ = false) (h1 : ∀ u ∈ news, u.oneCell' = true) :
    (Builtin.append_ #[t, tx] ty #[.slice (some ⟨b, o, none⟩) sLen sCap, v]).run C.P w = .ok (.slice (some ⟨b, o, none⟩) (sLen + m) sCap) (w.setCells b (o + sLen * sz) news) := by
  have hst := run_storeCells_cells (P := C.P) b (o + sLen * sz) news 0 w (by simpa using hc) (by simpa using hfr) h1
  subst hsz
  simp only [Nat.add_zero] at hst
  rcases hd with ⟨e', rfl⟩ | rfl <;>
    simp [Builtin.append_, run_underlying hu, run_underlying hx, Go.sizeOf, typeInfo, hi, hm, hroom, hf, add_at, hst]
end
end Ey
