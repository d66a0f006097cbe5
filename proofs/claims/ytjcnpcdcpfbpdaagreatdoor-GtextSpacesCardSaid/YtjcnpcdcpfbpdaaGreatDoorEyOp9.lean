/- The operations that leave memory as it is, all of them. -/
import Derived.Test.YtjcnpcdcpfbpdaaGreatDoorEyEq
import Derived.Test.YtjcnpcdcpfbpdaaGreatDoorEyNat
import Derived.Laws.Cover2
namespace Ey
open Go Go.RowKit

def strTy (P : Program) (t : TypeId) : Bool :=
  match P.underlying t with
  | some .string => true
  | _ => false

theorem strTy_is {P : Program} {t : TypeId} (h : strTy P t = true) : P.underlying t = some .string := by
  unfold strTy at h; split at h <;> simp_all

/-- a slice of bytes -/
def bytesTy (P : Program) (t : TypeId) : Bool :=
  match P.underlying t with
  | some (.slice e) => match P.underlying e, P.info? e with
    | some (.int .u8), some i => i.size == 1
    | _, _ => false
  | _ => false

theorem bytesTy_is {P : Program} {t : TypeId} (h : bytesTy P t = true) : ∃ e i, P.underlying t = some (.slice e) ∧ P.underlying e = some (.int .u8) ∧ P.info? e = some i ∧ i.size = 1 := by
  unfold bytesTy at h
  split at h
  · rename_i e hu
    split at h
    · rename_i i hi he
      exact ⟨e, i, hu, by assumption, by assumption, by simpa using h⟩
    · simp at h
  · simp at h

def intTy (P : Program) (t : TypeId) (k : IntKind) : Bool :=
  match P.underlying t with
  | some (.int k') => k' == k
  | _ => false

theorem intTy_is {P : Program} {t : TypeId} {k : IntKind} (h : intTy P t k = true) : P.underlying t = some (.int k) := by
  unfold intTy at h; split at h <;> simp_all

def slcTy (P : Program) (t : TypeId) : Bool :=
  match P.underlying t with
  | some (.slice _) => true
  | _ => false

theorem slcTy_is {P : Program} {t : TypeId} (h : slcTy P t = true) : ∃ e, P.underlying t = some (.slice e) := by
  unfold slcTy at h; split at h
  · exact ⟨_, by assumption⟩
  · simp at h

/-- a call of a builtin: which one, of what -/
def asBuiltin (c : Call) : Option (Builtin × List Operand × List TypeId) :=
  match c.callee with
  | .builtin b => some (b, c.args.toList, c.argTypes.toList)
  | _ => none

theorem asBuiltin_is {c : Call} {b : Builtin} {xs : List Operand} {ts : List TypeId} (h : asBuiltin c = some (b, xs, ts)) : c = { callee := .builtin b, args := xs.toArray, argTypes := ts.toArray } := by
  unfold asBuiltin at h
  split at h
  · rename_i b' hb
    simp at h
    obtain ⟨rfl, rfl, rfl⟩ := h
    cases c
    simp_all
  · simp at h

/-- an array of one-cell elements -/
def slaOK (P : Program) (t : TypeId) (n : Nat) : Bool :=
  match P.underlying t with
  | some (.array m e) => m == n && (match P.info? e with | some i => i.size == 1 | none => false)
  | _ => false

theorem sla_sim {C : Cx} {g : Gh} {w : World} {t : TypeId} {n : Nat} (h : slaOK C.P t n = true) {x : AV} (hn : x.cells.length = n) {lo hi : Option AV} {l k : Nat} (hb : slBounds n lo hi = some (l, k))
    {v : Value} (hx : VR C g (.imm x) v) {vl vh : Option Value} (hl : OptR C g lo vl) (hh : OptR C g hi vh) :
    ∃ u, (Instr.sliceAt t v vl vh none).run C.P w = .ok u w ∧ VR C g (.list false ((x.cells.drop l).take (k - l))) u := by
  unfold slaOK at h
  split at h
  · rename_i m e hu
    simp only [Bool.and_eq_true, beq_iff_eq] at h
    obtain ⟨rfl, h⟩ := h
    split at h
    · rename_i i hi
      simp only [beq_iff_eq] at h
      have hsize : (Go.sizeOf e).run C.P w = .ok 1 w := by simp [Go.sizeOf, typeInfo, hi, h]
      cases hx with
      | imm _ b o f h1 hne hG hv =>
        obtain ⟨k1, k2, k3⟩ := bounds_run (w := w) (cap := m) hb hl hh (Nat.le_refl _) false
        refine ⟨_, by simp only [Instr.sliceAt, Sem.run_bind, run_underlying hu, Result.andThen_ok]; simp [Instr.sureAddr, k1, hsize]; rfl, ?_⟩
        have hlen : ((x.cells.drop l).take (k - l)).length = k - l := by simp; omega
        have hget : ∀ (i : Nat) (y : AV), ((x.cells.drop l).take (k - l))[i]? = some y → x.cells[l + i]? = some y ∧ i < k - l := by
          intro i y hy
          have hi : i < k - l := by
            have := (List.getElem?_eq_some_iff.1 hy).1
            omega
          rw [List.getElem?_take, if_pos hi, List.getElem?_drop] at hy
          exact ⟨hy, hi⟩
        have h1' : ∀ (i : Nat) (y : AV), ((x.cells.drop l).take (k - l))[i]? = some y → y.one = true := fun i y hy => h1 y (List.mem_of_getElem? (hget i y hy).1)
        have key := VR.list (C := C) (g := g) ((x.cells.drop l).take (k - l)) b (if m = l then o else o + l) (m - l) 1 (fun i _ => f (l + i)) (by omega)
          (fun i y hy => by rw [AV.one_cells (h1' i y hy)]; exact ⟨rfl, fun c hc => by simp at hc; exact hc ▸ h1' i y hy⟩) (fun i y hy => by rw [AV.one_cells (h1' i y hy)]; simp) (fun i j hi hj => by
            rw [hlen] at hi
            obtain rfl : j = 0 := by omega
            have := hG (l + i) (by omega)
            rw [if_neg (by omega)]
            rwa [show o + l + i * 1 + 0 = o + (l + i) by omega])
          (fun i j y z hy hz => by
            rw [AV.one_cells (h1' i y hy)] at hz
            cases j with
            | zero => simp at hz; subst hz; exact hv _ _ (hget i y hy).1
            | succ j => simp at hz)
        rw [hlen] at key
        by_cases hml : m = l
        · rw [if_pos hml] at key ⊢; exact key
        · rw [if_neg hml] at key ⊢; rw [add_at]; exact key
    · cases h
  · cases h

def chkPure (C : Cx) (op : Op) (aop : AOp) : Bool :=
  match op, aop with
  | .move x, .mv y => opdOK C x y
  | .assign x, .mv y => opdOK C x y
  | .pick c p q, .pick c' p' q' => opdOK C c c' && opdOK C p p' && opdOK C q q'
  | .binOp op _ x y _, .bin op' x' y' => op == op' && opdOK C x x' && opdOK C y y'
  | .binOp op t x y _, .eq neg k x' y' => op == (if neg then .neq else .eql) && (eqTyOK C.P k t y || aggTyOK C.P k t) && opdOK C x x' && opdOK C y y'
  | .unOp op _ x, .un op' x' => op == op' && opdOK C x x'
  | .convert s d x, .cvi k x' => (C.P.underlying s).isSome && intTy C.P d k && opdOK C x x'
  | .convert s d x, .mv x' => strTy C.P s && strTy C.P d && opdOK C x x' && (match x' with | .k (.str _) => true | _ => false)
  | .build t ps, .bld z qs => zeroOK C.P t z && builtOK C.P t && (match z with | .agg _ => true | _ => false) && partsOK C (placesOf C.P t) ps.toList qs
  | .fieldAddr t x k, .fa off sz ag y => fieldOK C.P t k off sz ag && opdOK C x y
  | .indexAddr t x i, .ia m sz ag y j => arrOK C.P t m sz ag && opdOK C x y && opdOK C i j
  | .indexAddr t x i, .ix sz y j => slcOK C.P t sz && opdOK C x y && opdOK C i j
  | .load t x, .ld sz ag y => tyOK C.P t sz ag && opdOK C x y
  | .field t x k, .fld off sz ag y => fieldOK C.P t k off sz ag && opdOK C x y
  | .index t x i, .ixa m sz ag y j => arrOK C.P t m sz ag && opdOK C x y && opdOK C i j
  | .index t x i, .ixs y j => strTy C.P t && opdOK C x y && opdOK C i j
  | .call c, .len y => match asBuiltin c with
    | some (.len, [x], [t]) => slcTy C.P t && opdOK C x y
    | _ => false
  | .call c, .lns y => match asBuiltin c with
    | some (.len, [x], [t]) => strTy C.P t && opdOK C x y
    | _ => false
  | .call c, .mnmx mx x' y' => match asBuiltin c with
    | some (b, [x, y], _) => b == (if mx then .max else .min) && opdOK C x x' && opdOK C y y'
    | _ => false
  | .slice t x lo hi mx, .sl sz y lo' hi' mx' => slcOK C.P t sz && opdOK C x y && optOK C lo lo' && optOK C hi hi' && optOK C mx mx'
  | .slice t x lo hi mx, .ss y lo' hi' => strTy C.P t && opdOK C x y && optOK C lo lo' && optOK C hi hi' && optOK C mx none
  | .extract x i, .ext j y => i == j && opdOK C x y
  | .makeInterface t x, .mkif tag y => concOK C.P t && C.tm tag == some t && opdOK C x y
  | .typeAssert x _ t ok, .tas tag z ok' y => ok == ok' && concOK C.P t && C.tm tag == some t && (!ok || zeroOK C.P t z) && opdOK C x y
  | .makeFunc (.func f) first cap, .mkfn f' ys => C.fm f' == some f && first.isEmpty && opdsOK C cap.toList ys
  | .nilCheck x, .nilc y => opdOK C x y
  | .load t x, .ldl sz ag s => tyOK C.P t sz ag && opdOK C x (.t s)
  | .call c, .cap y => match asBuiltin c with
    | some (.cap, [x], [t]) => slcTy C.P t && opdOK C x y
    | _ => false
  | .slice t x lo hi mx, .sla m y lo' hi' => slaOK C.P t m && opdOK C x y && optOK C lo lo' && optOK C hi hi' && optOK C mx none
  | .convert s d x, .nat k ys => k == 4 && (match C.P.underlying s with | some (.int _) => true | _ => false) && (match C.P.underlying d with | some (.float .f64) => true | _ => false) && (match ys with | [y] => opdOK C x y | _ => false)
  | .call c, .nat k ys => (match c.callee with
    | .value (.func fid) => natFn C.P fid k && opdsOK C c.args.toList ys
    | _ => match asBuiltin c with
      | some (b, xs, _) => ((k == 5 && b == .min) || (k == 6 && b == .max)) && xs.length == 3 && opdsOK C xs ys
      | none => false)
  | _, .bad => true
  | _, _ => false

section
variable {C : Cx} {g : Gh} {own : Own} {B : Nat} {H : Heap} {w : World} {env : Env} {a : Act} {n : Nat} {L : List Nat}

theorem run_value {o : Oper} {s : Sem Value} {v : Value} (h : execOp a.eval o = do pure (.value (← s))) (hs : s.run C.P w = .ok v w) : (execOp a.eval o).run C.P w = .ok (.value v) w := by
  rw [h]; simp [hs]

theorem run_builtin {o : Oper} {b : Builtin} {xs : List Operand} {ts : List TypeId} (ho : o.op = .call { callee := .builtin b, args := xs.toArray, argTypes := ts.toArray }) :
    execOp a.eval o = Go.builtin b ts.toArray o.type ((xs.toArray).map fun | .const _ => true | _ => false) ((xs.toArray).map a.eval) := by
  obtain ⟨dst, op, type, pos, after, guard⟩ := o
  simp only at ho
  subst ho
  simp [execOp, resolve, invoke]
  rfl

set_option maxHeartbeats 1000000 in
theorem opv_sim (hS : St C g own B H w) (hF : Fr C g own w env a.tmps n L) {o : Oper} {aop : AOp} (hc : chkPure C o.op aop = true) {x : Sl} (hx : opv env H aop = some x) :
    ∃ v, (execOp a.eval o).run C.P w = .ok (.value v) w ∧ SlR C g env (tmOf a.tmps) x v ∧ x.plain = true := by
  obtain ⟨dst, op, type, pos, after, guard⟩ := o
  simp only at hc
  unfold chkPure at hc
  split at hc
  -- move, assign
  case h_1 x' y =>
    simp only [opv] at hx
    refine ⟨_, rfl, ?_⟩
    split at hx <;> simp at hx
    · rename_i q hq; subst hx; exact ⟨sl_rel hF hc hq (by simp), rfl⟩
    · rename_i s o' hq; subst hx; exact ⟨sl_rel hF hc hq (by simp), rfl⟩
  case h_2 x' y =>
    simp only [opv] at hx
    refine ⟨_, rfl, ?_⟩
    split at hx <;> simp at hx
    · rename_i q hq; subst hx; exact ⟨sl_rel hF hc hq (by simp), rfl⟩
    · rename_i s o' hq; subst hx; exact ⟨sl_rel hF hc hq (by simp), rfl⟩
  -- pick
  case h_3 c p q c' p' q' =>
    simp only [Bool.and_eq_true] at hc
    simp only [opv] at hx
    split at hx
    · rename_i t ht
      simp only [Option.map_eq_some_iff] at hx
      obtain ⟨r, hr, rfl⟩ := hx
      have h1 := av_rel hF hc.1.1 ht
      cases t
      · refine ⟨a.eval q, ?_, av_rel hF hc.2 (by simpa using hr), rfl⟩
        simp only [execOp]
        generalize a.eval c = vc at h1
        cases h1
        simp [asBool]
      · refine ⟨a.eval p, ?_, av_rel hF hc.1.2 (by simpa using hr), rfl⟩
        simp only [execOp]
        generalize a.eval c = vc at h1
        cases h1
        simp [asBool]
    · simp at hx
  -- bin
  case h_4 op' t x' y' _ op2 p q =>
    simp only [Bool.and_eq_true, beq_iff_eq] at hc
    obtain ⟨⟨rfl, h1⟩, h2⟩ := hc
    simp only [opv] at hx
    split at hx
    · rename_i u v hu hv
      simp only [Option.map_eq_some_iff] at hx
      obtain ⟨r, hr, rfl⟩ := hx
      obtain ⟨z, h3, h4⟩ := bin_sim (C := C) (w := w) hr (av_rel hF h1 hu) (av_rel hF h2 hv) t x' y'
      exact ⟨z, run_value (C := C) rfl h3, h4, rfl⟩
    · simp at hx
  -- eq
  case h_5 op' t x' y' _ neg k p q =>
    simp only [Bool.and_eq_true, beq_iff_eq] at hc
    obtain ⟨⟨⟨rfl, h0⟩, h1⟩, h2⟩ := hc
    simp only [opv] at hx
    split at hx
    · rename_i u v hu hv
      simp only [Option.map_eq_some_iff] at hx
      obtain ⟨r, hr, rfl⟩ := hx
      simp only [Bool.or_eq_true] at h0
      rcases h0 with h0 | h0
      · exact ⟨_, run_value (C := C) rfl (eq_sim (x := x') hr (av_rel hF h1 hu) (av_rel hF h2 hv) h0 neg), .bool _, rfl⟩
      · exact ⟨_, run_value (C := C) rfl (agg_sim (x := x') hr (av_rel hF h1 hu) (av_rel hF h2 hv) h0 neg), .bool _, rfl⟩
    · simp at hx
  -- un
  case h_6 op' _ x' op2 p =>
    simp only [Bool.and_eq_true, beq_iff_eq] at hc
    obtain ⟨rfl, h1⟩ := hc
    simp only [opv] at hx
    split at hx
    · rename_i u hu
      simp only [Option.map_eq_some_iff] at hx
      obtain ⟨r, hr, rfl⟩ := hx
      obtain ⟨z, h3, h4⟩ := un_sim (w := w) hr (av_rel hF h1 hu)
      exact ⟨z, run_value (C := C) rfl h3, h4, rfl⟩
    · simp at hx
  -- cvi
  case h_7 s d x' k p =>
    simp only [Bool.and_eq_true] at hc
    obtain ⟨⟨h0, h1⟩, h2⟩ := hc
    obtain ⟨ds, hds⟩ := Option.isSome_iff_exists.1 h0
    simp only [opv] at hx
    split at hx
    · rename_i k' m hm
      simp at hx; subst hx
      exact ⟨_, run_value (C := C) rfl (cvi_sim hds (intTy_is h1) (av_rel hF h2 hm)), .int _ _, rfl⟩
    · simp at hx
  -- string to string
  case h_8 s d x' p =>
    simp only [Bool.and_eq_true] at hc
    obtain ⟨⟨⟨h0, h1⟩, h2⟩, h3⟩ := hc
    split at h3
    · simp only [opv, Env.sl] at hx
      simp at hx; subst hx
      have hr := av_rel hF h2 (z := .str _) rfl
      obtain ⟨b, hb, _⟩ := str_inv hr
      refine ⟨_, run_value (C := C) (s := Go.convert s d (a.eval x')) rfl ?_, hr, rfl⟩
      rw [hb]
      simp [Go.convert, run_underlying (strTy_is h0), run_underlying (strTy_is h1)]
    · simp at h3
  -- build
  case h_9 t ps z qs =>
    simp only [Bool.and_eq_true] at hc
    obtain ⟨⟨⟨h0, h1⟩, h2⟩, h3⟩ := hc
    simp only [opv] at hx
    split at hx
    · rename_i rs hrs
      simp only [Option.map_eq_some_iff] at hx
      obtain ⟨r, hr, rfl⟩ := hx
      obtain ⟨v, h4, h5⟩ := bld_sim (w := w) h0 h1 (parts_rel hF h3 hrs) (by split at h2; exact ⟨_, rfl⟩; simp at h2) hr
      refine ⟨v, run_value (C := C) (s := Instr.build t (ps.map fun (i, x) => (i, a.eval x))) rfl ?_, h5, rfl⟩
      have : (ps.map fun (i, x) => (i, a.eval x)) = (ps.toList.map fun (i, x) => (i, a.eval x)).toArray := by
        apply Array.ext'; simp
      rw [this]; exact h4
    · simp at hx
  -- fieldAddr
  case h_10 t x' k off sz ag y =>
    simp only [Bool.and_eq_true] at hc
    simp only [opv] at hx
    obtain ⟨v, h1, h2⟩ := fa_sim (w := w) hF hc.1 hc.2 hx
    refine ⟨v, run_value (C := C) rfl h1, h2, ?_⟩
    unfold addrS at hx
    split at hx <;> simp at hx
    · subst hx; rfl
    · obtain ⟨_, _, rfl⟩ := hx; rfl
    · subst hx; rfl
    · subst hx; rfl
  -- indexAddr, array
  case h_11 t x' i m sz ag y j =>
    simp only [Bool.and_eq_true] at hc
    simp only [opv] at hx
    split at hx
    · rename_i q k hk
      split at hx
      · rename_i h0
        obtain ⟨v, h1, h2⟩ := ia_sim (w := w) hF hc.1.1 hc.1.2 hc.2 hk h0.1 h0.2 hx
        refine ⟨v, run_value (C := C) rfl h1, h2, ?_⟩
        unfold addrS at hx
        split at hx <;> simp at hx
        · subst hx; rfl
        · obtain ⟨_, _, rfl⟩ := hx; rfl
        · subst hx; rfl
        · subst hx; rfl
      · simp at hx
    · simp at hx
  -- indexAddr, slice
  case h_12 t x' i sz y j =>
    simp only [Bool.and_eq_true] at hc
    obtain ⟨v, h1, h2⟩ := ix_sim hS hF hc.1.1 hc.1.2 hc.2 hx
    refine ⟨v, run_value (C := C) rfl h1, h2, ?_⟩
    simp only [opv] at hx
    (repeat' split at hx) <;> simp at hx <;> subst hx <;> rfl
  -- load
  case h_13 t x' sz ag y =>
    simp only [Bool.and_eq_true] at hc
    simp only [opv, Option.map_eq_some_iff] at hx
    obtain ⟨r, hr, rfl⟩ := hx
    obtain ⟨v, h1, h2⟩ := ld_sim hS hF (tyIs hc.1) hc.2 hr
    exact ⟨v, run_value (C := C) rfl h1, h2, rfl⟩
  -- field
  case h_14 t x' k off sz ag y =>
    simp only [Bool.and_eq_true] at hc
    simp only [opv] at hx
    split at hx
    · rename_i cs hcs
      simp only [Option.map_eq_some_iff] at hx
      obtain ⟨r, hr, rfl⟩ := hx
      obtain ⟨v, h1, h2⟩ := fld_sim (w := w) hc.1 hr (av_rel hF hc.2 hcs)
      exact ⟨v, run_value (C := C) rfl h1, h2, rfl⟩
    · simp at hx
  -- index, array
  case h_15 t x' i m sz ag y j =>
    simp only [Bool.and_eq_true] at hc
    simp only [opv] at hx
    split at hx
    · rename_i cs q k hcs hk
      split at hx
      · rename_i h0
        simp only [Option.map_eq_some_iff] at hx
        obtain ⟨r, hr, rfl⟩ := hx
        obtain ⟨v, h1, h2⟩ := ixa_sim (w := w) hc.1.1 h0.1 h0.2 hr (av_rel hF hc.1.2 hcs) (av_rel hF hc.2 hk)
        exact ⟨v, run_value (C := C) rfl h1, h2, rfl⟩
      · simp at hx
    · simp at hx
  -- index, string
  case h_16 t x' i y j =>
    simp only [Bool.and_eq_true] at hc
    simp only [opv] at hx
    split at hx
    · rename_i s q k hs hk
      split at hx
      · rename_i h0
        split at hx
        · rename_i b hb
          simp at hx; subst hx
          obtain ⟨v, h1, h2⟩ := ixs_sim (w := w) (strTy_is hc.1.1) h0 hb (av_rel hF hc.1.2 hs) (av_rel hF hc.2 hk)
          exact ⟨v, run_value (C := C) rfl h1, h2, rfl⟩
        · simp at hx
      · simp at hx
    · simp at hx
  -- len
  case h_17 c y =>
    split at hc
    · rename_i x' t hb
      simp only [Bool.and_eq_true] at hc
      obtain ⟨e, he⟩ := slcTy_is hc.1
      have := asBuiltin_is hb
      subst this
      simp only [opv] at hx
      split at hx
      · rename_i v hv
        simp only [Option.map_eq_some_iff] at hx
        obtain ⟨k, hk, rfl⟩ := hx
        refine ⟨_, ?_, .int _ _, rfl⟩
        rw [run_builtin rfl]
        simp only [Go.builtin]
        have := len_sim (w := w) he hk (av_rel hF hc.2 hv) type
        simp [this]
      · simp at hx
    · simp at hc
  case h_18 c y =>
    split at hc
    · rename_i x' t hb
      simp only [Bool.and_eq_true] at hc
      have := asBuiltin_is hb
      subst this
      simp only [opv] at hx
      split at hx
      · rename_i s hv
        simp at hx; subst hx
        refine ⟨_, ?_, .int _ _, rfl⟩
        rw [run_builtin rfl]
        simp only [Go.builtin]
        have := lns_sim (w := w) (strTy_is hc.1) (av_rel hF hc.2 hv) type
        simp [this]
      · simp at hx
    · simp at hc
  -- min, max
  case h_19 c mx p q =>
    split at hc
    · rename_i b x' y' ts hb
      simp only [Bool.and_eq_true, beq_iff_eq] at hc
      obtain ⟨⟨rfl, h1⟩, h2⟩ := hc
      have := asBuiltin_is hb
      subst this
      simp only [opv] at hx
      split at hx
      · rename_i k i k' i' hp hq
        split at hx
        · rename_i hk
          subst hk
          simp at hx; subst hx
          refine ⟨_, ?_, .int _ _, rfl⟩
          rw [run_builtin rfl]
          have := mnmx_sim (C := C) (w := w) (mx := mx) (av_rel hF h1 hp) (av_rel hF h2 hq) ts.toArray type
          cases mx <;> simp [Go.builtin] at this ⊢ <;> simp [this]
        · simp at hx
      · simp at hx
    · simp at hc
  -- slices
  case h_20 t x' lo hi mx sz y lo' hi' mx' =>
    simp only [Bool.and_eq_true] at hc
    obtain ⟨⟨⟨⟨h0, h1⟩, h2⟩, h3⟩, h4⟩ := hc
    simp only [opv] at hx
    split at hx
    · rename_i v l h m hv hl hh hm
      simp only [Option.map_eq_some_iff] at hx
      obtain ⟨r, hr, rfl⟩ := hx
      obtain ⟨u, h5, h6⟩ := sl_sim hS h0 hr (av_rel hF h1 hv) (opt_rel hF h2 hl) (opt_rel hF h3 hh) (opt_rel hF h4 hm)
      obtain ⟨e, ie, hu, _⟩ := slc_is h0
      refine ⟨u, run_value (C := C) (s := Instr.sliceAt t (a.eval x') (lo.map a.eval) (hi.map a.eval) (mx.map a.eval)) rfl ?_, h6, rfl⟩
      simp only [Instr.sliceAt, Sem.run_bind, run_underlying hu, Result.andThen_ok]
      exact h5
    · simp at hx
  case h_21 t x' lo hi mx y lo' hi' =>
    simp only [Bool.and_eq_true] at hc
    obtain ⟨⟨⟨⟨h0, h1⟩, h2⟩, h3⟩, h4⟩ := hc
    cases mx with
    | some _ => simp [optOK] at h4
    | none =>
      simp only [opv] at hx
      split at hx
      · rename_i s l h hv hl hh
        simp only [Option.map_eq_some_iff] at hx
        obtain ⟨⟨p, q⟩, hr, rfl⟩ := hx
        obtain ⟨u, h5, h6⟩ := ss_sim (w := w) (strTy_is h0) hr (av_rel hF h1 hv) (opt_rel hF h2 hl) (opt_rel hF h3 hh)
        refine ⟨u, run_value (C := C) (s := Instr.sliceAt t (a.eval x') (lo.map a.eval) (hi.map a.eval) none) rfl ?_, h6, rfl⟩
        simp only [Instr.sliceAt, Sem.run_bind, run_underlying (strTy_is h0), Result.andThen_ok]
        exact h5
      · simp at hx
  -- extract
  case h_22 x' i j y =>
    simp only [Bool.and_eq_true, beq_iff_eq] at hc
    obtain ⟨rfl, h1⟩ := hc
    simp only [opv] at hx
    split at hx
    · rename_i vs hvs
      simp only [Option.map_eq_some_iff] at hx
      obtain ⟨r, hr, rfl⟩ := hx
      obtain ⟨u, h2, h3⟩ := ext_sim (w := w) hr (av_rel hF h1 hvs)
      exact ⟨u, run_value (C := C) rfl h2, h3, rfl⟩
    · simp at hx
  -- makeInterface
  case h_23 t x' tag y =>
    simp only [Bool.and_eq_true, beq_iff_eq] at hc
    obtain ⟨⟨h0, h1⟩, h2⟩ := hc
    simp only [opv] at hx
    split at hx
    · rename_i v hv
      simp at hx; subst hx
      obtain ⟨u, h3, h4⟩ := mkif_sim (w := w) h0 h1 (av_rel hF h2 hv)
      exact ⟨u, run_value (C := C) rfl h3, h4, rfl⟩
    · simp at hx
  -- typeAssert
  case h_24 x' xt t ok tag z ok' y =>
    simp only [Bool.and_eq_true, beq_iff_eq, Bool.or_eq_true, Bool.not_eq_true'] at hc
    obtain ⟨⟨⟨⟨rfl, h0⟩, h1⟩, h2⟩, h3⟩ := hc
    simp only [opv] at hx
    have hzero : ok = true → zeroOK C.P t z = true := fun h => h2.resolve_left (by simp [h])
    split at hx
    · rename_i t' v hv
      have hr := av_rel hF h3 hv
      split at hx
      · rename_i he
        simp only [Option.some.injEq] at hx; subst hx
        obtain ⟨u, h4, h5⟩ := tas_sim (w := w) (xt := xt) (z := z) (ok := ok) h0 h1 hzero (x := .iface t' v) (r := if ok = true then .tup [v, .bool true] else v) (if_pos he) hr
        exact ⟨u, run_value (C := C) rfl h4, h5, rfl⟩
      · rename_i he
        split at hx
        · rename_i hok
          simp only [Option.some.injEq] at hx; subst hx
          obtain ⟨u, h4, h5⟩ := tas_sim (w := w) (xt := xt) (z := z) (ok := ok) h0 h1 hzero (x := .iface t' v) (r := .tup [z, .bool false]) ((if_neg he).trans (if_pos hok)) hr
          exact ⟨u, run_value (C := C) rfl h4, h5, rfl⟩
        · simp at hx
    · rename_i hv
      have hr := av_rel hF h3 hv
      split at hx
      · rename_i hok
        simp only [Option.some.injEq] at hx; subst hx
        obtain ⟨u, h4, h5⟩ := tas_sim (w := w) (xt := xt) (z := z) (ok := ok) h0 h1 hzero (x := .niliface) (r := .tup [z, .bool false]) (if_pos hok) hr
        exact ⟨u, run_value (C := C) rfl h4, h5, rfl⟩
      · simp at hx
    · simp at hx
  -- makeFunc
  case h_25 f first cap f' ys =>
    simp only [Bool.and_eq_true, beq_iff_eq] at hc
    obtain ⟨⟨h0, h1⟩, h2⟩ := hc
    simp only [opv] at hx
    split at hx
    · rename_i vs hvs
      simp at hx; subst hx
      obtain ⟨h3, h4⟩ := all_rel hF h2 hvs
      have hfe : first = #[] := by simpa using h1
      subst hfe
      refine ⟨.func (.func f) #[] (cap.map a.eval), by simp [execOp, Instr.makeFunc], .fn f' vs f _ h0 (by simp [h3]) (fun i x y hx hy => h4 i x y hx (by simpa using hy)), rfl⟩
    · simp at hx
  -- nilCheck
  case h_26 x' y =>
    simp only [opv] at hx
    split at hx
    · rename_i s o' hq
      simp at hx; subst hx
      have hr := sl_rel hF hc hq (by simp)
      have hr' := hr
      obtain ⟨cs, b, o2, h1, h2, h3⟩ := hr
      exact ⟨_, by simp only [execOp]; rw [h3]; rfl, by rw [← h3]; exact hr', rfl⟩
    all_goals first
      | (simp at hx; done)
      | (rename_i hq
         simp at hx; subst hx
         have hr := sl_rel hF hc hq (by simp)
         simp only [execOp]
         generalize a.eval x' = vx at hr
         refine ⟨vx, ?_, hr, rfl⟩
         cases hr <;> rfl)
  case h_27 t x' sz ag s =>
    simp only [Bool.and_eq_true] at hc
    simp only [opv] at hx
    split at hx
    · rename_i cs hq
      cases hp : part sz ag cs 0 with
      | none => rw [hp] at hx; simp at hx
      | some z =>
        rw [hp] at hx
        simp at hx; subst hx
        obtain ⟨v, h1, h2⟩ := ld_sim hS hF (tyIs hc.1) hc.2 (z := z) (by simp [Env.sl, hq, ldS, hp])
        exact ⟨v, by simp [execOp, h1], h2, rfl⟩
    · simp at hx
  case h_28 c y =>
    split at hc
    · rename_i x' t hb
      simp only [Bool.and_eq_true] at hc
      obtain ⟨e, he⟩ := slcTy_is hc.1
      have := asBuiltin_is hb
      subst this
      simp only [opv] at hx
      split at hx
      · rename_i hv
        simp only [Option.some.injEq] at hx; subst hx
        have hr := av_rel hF hc.2 hv
        refine ⟨.int .i64 0, ?_, .int _ _, rfl⟩
        rw [run_builtin rfl]
        generalize hev : a.eval x' = vx at hr
        cases hr
        simp [Go.builtin, Builtin.cap_, run_underlying he, goInt, hev]
      · rename_i hv
        simp only [Option.some.injEq] at hx; subst hx
        have hr := av_rel hF hc.2 hv
        refine ⟨.int .i64 0, ?_, .int _ _, rfl⟩
        rw [run_builtin rfl]
        generalize hev : a.eval x' = vx at hr
        cases hr
        simp [Go.builtin, Builtin.cap_, run_underlying he, goInt, hev]
      · simp at hx
    · simp at hc
  case h_29 t x' lo hi mx m y lo' hi' =>
    simp only [Bool.and_eq_true] at hc
    obtain ⟨⟨⟨⟨h0, h1⟩, h2⟩, h3⟩, h4⟩ := hc
    cases mx with
    | some _ => simp [optOK] at h4
    | none =>
      simp only [opv] at hx
      split at hx
      · rename_i z l k hv hl hh
        split at hx
        · rename_i hn
          simp only [Option.map_eq_some_iff] at hx
          obtain ⟨⟨p, q⟩, hr, rfl⟩ := hx
          obtain ⟨u, h5, h6⟩ := sla_sim (w := w) h0 hn hr (av_rel hF h1 hv) (opt_rel hF h2 hl) (opt_rel hF h3 hh)
          exact ⟨u, run_value (C := C) (s := Instr.sliceAt t (a.eval x') (lo.map a.eval) (hi.map a.eval) none) rfl h5, h6, rfl⟩
        · simp at hx
      · simp at hx
  case h_30 s d x' k ys =>
    simp only [Bool.and_eq_true, beq_iff_eq] at hc
    obtain ⟨⟨⟨rfl, h1⟩, h2⟩, h3⟩ := hc
    split at h1
    · rename_i q hs
      split at h2
      · rename_i hd
        split at h3
        · rename_i y
          simp only [opv, allAV] at hx
          cases hy : env.av y with
          | none => rw [hy] at hx; simp at hx
          | some z =>
            rw [hy] at hx
            simp only [Option.map_some] at hx
            have hr := av_rel hF h3 hy
            cases z <;> simp only [natAV, Option.map_none, reduceCtorEq, Option.map_some, Option.some.injEq] at hx
            rename_i k' m
            subst hx
            generalize hev : a.eval x' = vx at hr
            cases hr
            refine ⟨.float .f64 (FloatKind.nearest .f64 m), run_value (C := C) (s := convert s d (a.eval x')) rfl ?_, .flt _ _, rfl⟩
            rw [hev, run_convert_int_float w s d k' .f64 m (by rw [hs]; rfl) hd]; rfl
        · cases h3
      · cases h2
    · cases h1
  case h_31 c k ys =>
    split at hc
    · rename_i fid hcal
      simp only [Bool.and_eq_true] at hc
      simp only [opv] at hx
      split at hx
      · rename_i vs hvs
        simp only [Option.map_eq_some_iff] at hx
        obtain ⟨z, hz, rfl⟩ := hx
        obtain ⟨hl, hv⟩ := all_rel hF hc.2 hvs
        obtain ⟨v, h1, h2⟩ := nat_sim hc.1 hz (ws := c.args.toList.map a.eval) (by simpa using hl) hv w
        refine ⟨v, ?_, h2, rfl⟩
        obtain ⟨callee, args, ats⟩ := c
        simp only at hcal
        subst hcal
        have he : (List.map a.eval args.toList).toArray = args.map a.eval := by rw [← Array.toList_map, Array.toArray_toList]
        have hev : a.eval (.func fid) = .func (.func fid) #[] #[] := rfl
        rw [← h1]
        show Sem.run C.P _ w = Sem.run C.P (callFunc fid (List.map a.eval args.toList).toArray) w
        rw [he]
        simp [execOp, resolve, Deferred.ofValue, invoke, hev]
      · simp at hx
    · split at hc
      · rename_i b xs ts hb
        simp only [Bool.and_eq_true, Bool.or_eq_true, beq_iff_eq] at hc
        obtain ⟨⟨hk, hlen⟩, ho⟩ := hc
        have := asBuiltin_is hb
        subst this
        simp only [opv] at hx
        split at hx
        · rename_i vs hvs
          simp only [Option.map_eq_some_iff] at hx
          obtain ⟨z, hz, rfl⟩ := hx
          obtain ⟨hl, hv⟩ := all_rel hF ho hvs
          match xs, hlen with
          | [x1, x2, x3], _ =>
            obtain ⟨mx, h5, h6⟩ : ∃ mx : Bool, k = (if mx then 6 else 5) ∧ b = (if mx then Go.Builtin.max else .min) := by
              rcases hk with ⟨h5, h6⟩ | ⟨h5, h6⟩
              · exact ⟨false, h5, h6⟩
              · exact ⟨true, h5, h6⟩
            subst h5 h6
            obtain ⟨p, q, r, rfl, rfl⟩ := nat3 hz
            have h1 := hv 0 _ _ rfl rfl
            have h2 := hv 1 _ _ rfl rfl
            have h3 := hv 2 _ _ rfl rfl
            have := mnmx3_sim (C := C) (w := w) (mx := mx) h1 h2 h3 ts.toArray type
            refine ⟨.int .i64 (if mx then max (max p q) r else min (min p q) r), ?_, .int _ _, rfl⟩
            rw [run_builtin rfl]
            cases mx <;> simp [Go.builtin] at this ⊢ <;> simp [this]
        · simp at hx
      · simp at hc
  case h_32 => simp [opv] at hx
  case h_33 => simp at hc
end
end Ey
