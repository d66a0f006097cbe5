/- Values, heaps and programs of a small language of our own, and what running one answers. Nothing of the model's memory stands here. -/
import GoSem.Claims
namespace Ey
open Go (IntKind FloatKind BinOp UnOp)

inductive AV where
  | undef
  | bool (b : Bool)
  | int (k : IntKind) (n : Int)
  | str (s : List UInt8)
  | flt (k : FloatKind) (bits : Nat)
  | list (nil : Bool) (xs : List AV)
  | cap0
  | ms (id ver lo len : Nat)
  | imm (v : AV)
  | nilp
  | ptr (id off : Nat)
  | ap (id ver i off : Nat)
  | fn (f : Nat) (cap : List AV)
  | nilfn
  | iface (t : Nat) (v : AV)
  | niliface
  | agg (cs : List AV)
  | tup (vs : List AV)
  | mp (id : Nat)
  | nilmap
  deriving Inhabited

def AV.cells : AV → List AV
  | .agg cs => cs
  | .tup _ => []
  | .undef => []
  | v => [v]

/-- a value of one cell -/
def AV.one : AV → Bool
  | .agg _ => false
  | .tup _ => false
  | .undef => false
  | _ => true

/-- a part of some cells: a struct's or an array's (ag), or one cell -/
def part (sz : Nat) (ag : Bool) (cs : List AV) (off : Nat) : Option AV :=
  if ag then (if off + sz ≤ cs.length then some (.agg ((cs.drop off).take sz)) else none) else cs[off]?

/-- cells overwritten from a place on -/
def putAt (cs : List AV) (off : Nat) (new : List AV) : List AV := cs.take off ++ new ++ cs.drop (off + new.length)

inductive Blk where
  | obj (cs : List AV)
  | arr (nil : Bool) (sz : Nat) (xs : List AV)
  | map (es : List (AV × AV))
  deriving Inhabited

structure Heap where
  next : Nat
  ro : Nat
  get : Nat → Option Blk

def Heap.put (H : Heap) (id : Nat) (b : Option Blk) : Heap := { H with get := fun i => if i = id then b else H.get i }
def Heap.new (H : Heap) (b : Blk) : Heap := { H with next := H.next + 1, get := fun i => if i = H.next then some b else H.get i }

/-- what a slot holds: nothing that is known, the place-holder of an operation that was not wanted, a value, a local variable's cells, a pointer into a local variable -/
inductive Sl where
  | no
  | un
  | v (x : AV)
  | lv (cs : List AV)
  | lp (s off : Nat)
  deriving Inhabited

abbrev Env := List (Nat × Sl)
def Env.get : Env → Nat → Sl
  | [], _ => .no
  | (k, x) :: e, s => if s = k then x else Env.get e s

inductive Opd where
  | t (n : Nat)
  | k (v : AV)
  deriving Inhabited

def Env.sl (e : Env) : Opd → Sl
  | .k v => .v v
  | .t n => match e.get n with
    | .lv _ => .lp n 0
    | x => x

def Env.av (e : Env) (o : Opd) : Option AV := match e.sl o with
  | .v x => some x
  | _ => none

/-- what kinds of values are held against one another: the last five: against nil; agg: cells of plain kinds -/
inductive BK where
  | b | i | s
  deriving Inhabited, DecidableEq

inductive EqK where
  | bool | agg (ks : List BK) | ptr | slice | fn | iface | map
  deriving Inhabited, DecidableEq

/-- where in a value arrays may lie that are to become slices: nowhere; it is one, and in each of its elements; in a cell, and in further ones -/
inductive Fz where
  | no
  | sl (e : Fz)
  | ag (i : Nat) (f r : Fz)
  deriving Inhabited

inductive AOp where
  | mv (x : Opd)
  | pick (c a b : Opd)
  | bin (op : BinOp) (x y : Opd)
  | eq (neg : Bool) (k : EqK) (x y : Opd)
  | un (op : UnOp) (x : Opd)
  | cvi (k : IntKind) (x : Opd)
  | cvb (x : Opd)                                   -- string([]byte)
  | cvs (x : Opd)                                   -- []byte(string)
  | cvl (x : Opd)                                   -- []byte of a slice that was just made
  | mkl (z : AV) (n : Nat) (parts : List (Nat × Opd))
  | mkm (z : AV) (n : Nat) (parts : List (Nat × Opd)) -- the same, that may be written
  | bld (z : AV) (parts : List ((Nat × Nat) × Opd))  -- each part: its place, its size
  | fa (off sz : Nat) (ag : Bool) (a : Opd)         -- a field's address
  | ia (n sz : Nat) (ag : Bool) (a i : Opd)         -- an element's address, in an array that lies in memory
  | ix (sz : Nat) (x i : Opd)                       -- an element's address, in a slice
  | ld (sz : Nat) (ag : Bool) (a : Opd)
  | ldl (sz : Nat) (ag : Bool) (s : Nat)              -- the whole of a local variable
  | ldi (sz : Nat) (ag : Bool) (a : Opd)              -- out of what is never written
  | ldp (sz : Nat) (ag : Bool) (a : Opd)              -- out of a local variable
  | ldo (sz : Nat) (ag : Bool) (a : Opd)              -- out of a variable on the heap
  | ixl (sz : Nat) (x i : Opd)                        -- an element's address, in a slice that is never written
  | fld (off sz : Nat) (ag : Bool) (x : Opd)
  | ixa (n sz : Nat) (ag : Bool) (x i : Opd)        -- an element of an array value
  | ixs (x i : Opd)                                 -- a byte of a string
  | len (x : Opd)                                   -- of a slice
  | lns (x : Opd)                                   -- of a string
  | cap (x : Opd)
  | sl (sz : Nat) (x : Opd) (lo hi mx : Option Opd)  -- a slice, sliced
  | ss (x : Opd) (lo hi : Option Opd)               -- a string, sliced
  | ext (i : Nat) (x : Opd)
  | mkif (t : Nat) (x : Opd)
  | tas (t : Nat) (z : AV) (ok : Bool) (x : Opd)
  | mkfn (f : Nat) (cap : List Opd)
  | nilc (x : Opd)
  | mnmx (mx : Bool) (x y : Opd)
  | alv (cs : List AV)                              -- a new local variable
  | blv (sz : Nat) (x : Opd)
  | bim (sz : Nat) (x : Opd)                          -- one that is never written
  | sla (n : Nat) (a : Opd) (lo hi : Option Opd)      -- an array of one-cell elements that is never written, sliced
  | aob (cs : List AV)                              -- a new variable on the heap
  | bob (sz : Nat) (x : Opd)
  | st (sz : Nat) (a v : Opd)
  | sto (sz : Nat) (a v : Opd)                        -- into what is no local variable
  | app (sz : Nat) (b x : Opd)
  | apz (sz : Nat) (z : AV) (b n : Opd)                -- so many zeros behind nothing
  | mks (sz : Nat) (z : AV) (n : Opd)
  | cpy (sz : Nat) (d s : Opd)
  | clr (sz : Nat) (z : AV) (x : Opd)
  | thaw (sz s : Nat)                                 -- a nil slice in a slot becomes an array that may be written
  | frz (f : Fz) (s : Nat)                            -- arrays in a slot become slices that are written no more
  | call (f : Nat) (args : List Opd)
  | callc (f : Nat) (args : List Opd) (cs : List (Nat × Nat × Bool × Opd)) -- behind the call, what was loaded ahead of it loads as it did
  | callv (f : Opd) (args : List Opd)
  | pan (x : Opd)
  | nat (k : Nat) (args : List Opd)                   -- what an entry of the library's, or an operation on three numbers, answers
  | st0 (a v : Opd)                                   -- a value of no cells, into a local variable
  | sts (sz : Nat) (a v : Opd)                        -- a store of what is there
  | rmc (m : Nat) (x y : Opd)                         -- a remainder, by what is m
  | mkmp                                              -- a new map
  | mpl (n : Nat) (z : AV) (ok : Bool) (m k : Opd)    -- what a map holds at a key of n numbers (0: of one, that is no aggregate)
  | mpu (n : Nat) (m k v : Opd)                       -- a map's entry
  | bad                                               -- whatever is not said: it answers nothing
  deriving Inhabited

structure AInstr where
  dst : Option Nat
  op : AOp
  guard : Option (Nat × Bool) := none
  deriving Inhabited

inductive ACode where
  | skip
  | ops (l : List AInstr)
  | dops (l : List AInstr)                            -- a region whose order does not matter, and that does not panic
  | seq (a b : ACode)
  | cond (c : Opd) (a b : ACode)
  | block (id : Nat) (a : ACode)
  | loop (keep : List Nat) (a : ACode)
  | exit (id : Nat)
  | ret
  | dfr (s f : Nat) (cap : List Opd) (rs : Nat) (body clo : ACode) -- a function value is made and deferred, that recovers at once; the rest; what the function value does
  deriving Inhabited

inductive ARes where
  | tmp (t : Nat)
  | cell (s sz : Nat) (ag : Bool)
  deriving Inhabited

structure AFn where
  params : Nat
  code : ACode
  results : List ARes
  pure : Bool
  deriving Inhabited

end Ey
