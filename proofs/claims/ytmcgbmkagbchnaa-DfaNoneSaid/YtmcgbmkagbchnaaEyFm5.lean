/- The small language, run in a way that the kernel runs fast: all operations, code, calls. -/
import Derived.Test.YtmcgbmkagbchnaaEyFm4
namespace Ey
open Go (IntKind FloatKind BinOp UnOp)

inductive FOut where
  | go (x : Ex) (e : FE) (H : FH)
  | pan (v : AV) (H : FH)
  | bad

inductive FRes where
  | ret (v : AV) (H : FH)
  | pan (v : AV) (H : FH)
  | bad

abbrev FCaller := Nat → List AV → FH → FRes
abbrev OpM := FCaller → Option Nat → FE → FH → FOut

noncomputable def pvO (o : FE → FH → FOut → (Sl → FOut) → FOut) : OpM := fun _ d e H => o e H .bad fun x => .go .nrm (setF d x e) H

noncomputable def notLvK (s : Nat) (e : FE) (x : FOut) : FOut := @Sl.rec (fun _ => FOut) x x (fun _ => x) (fun _ => .bad) (fun _ _ => x) (getF s e)
noncomputable def newK (H : FH) (b : FBlk) (k : Nat → FH → FOut) : FOut := natK H.next fun i => k i ⟨Nat.succ i, H.ro, .cons i (some b) H.bl⟩
theorem newK_eq (H : FH) (b : FBlk) (k : Nat → FH → FOut) : newK H b k = k H.next (H.new b) := by simp only [newK, natK_eq]; rfl

noncomputable def sAlv (cs : List AV) : OpM := fun _ d e H => @Option.rec Nat (fun _ => FOut) .bad (fun s => notLvK s e (.go .nrm (.cons s (.lv cs) e) H)) d
noncomputable def sBlv (sz : Nat) (x : Opd) : OpM := fun _ d e H => @Option.rec Nat (fun _ => FOut) .bad (fun s => avK x e .bad fun v => notLvK s e (ifK (Nat.beq (ncellsF v) sz) .bad (.go .nrm (.cons s (.lv (cellsF v)) e) H))) d
noncomputable def sAob (cs : List AV) : OpM := fun _ d e H => newK H (.obj cs) fun i H' => .go .nrm (setF d (.v (.ptr i 0)) e) H'
noncomputable def sBob (sz : Nat) (x : Opd) : OpM := fun _ d e H => avK x e .bad fun v => ifK (Nat.beq (ncellsF v) sz) .bad (newK H (.obj (cellsF v)) fun i H' => .go .nrm (setF d (.v (.ptr i 0)) e) H')

/-- cells overwritten: one, or some -/
noncomputable def putX (cs : List AV) (off : Nat) (new : List AV) : List AV := @List.rec AV (fun _ => List AV) (putC cs off new) (fun v r _ => @List.rec AV (fun _ => List AV) (setN cs off v) (fun _ _ _ => putC cs off new) r) new
theorem putX_eq {cs : List AV} {off : Nat} {new : List AV} (h : off + new.length ≤ cs.length) : putX cs off new = putAt cs off new := by
  match new with
  | [] => exact putC_eq _ _ _
  | [v] =>
    show setN cs off v = _
    rw [setN_eq]
    simp only [List.length_cons, List.length_nil] at h
    simp only [putAt, List.length_cons, List.length_nil]
    rw [List.set_eq_take_append_cons_drop, if_pos (by omega)]
    simp
  | v :: u :: r => exact putC_eq _ _ _

noncomputable def putE (x : AV) (off : Nat) (new : List AV) : AV := ifK (Nat.beq (ncellsF x) (lenF new)) (.agg (putX (cellsF x) off new)) (@Nat.rec (fun _ => AV) (aggK x (new.headD .undef) fun _ => .agg new) (fun _ _ => .agg (putX (cellsF x) off new)) off)
theorem putE_eq {x : AV} {off : Nat} {new : List AV} (h : off + new.length ≤ x.cells.length) : putE x off new = putElem x off new := by
  simp only [putE, ifK_beq, ncellsF_eq, lenF_eq, cellsF_eq, putX_eq h, putElem]
  by_cases h1 : x.cells.length = new.length
  · rw [if_pos h1]
    cases off with
    | zero =>
      rw [if_pos ⟨h1, rfl⟩]
      simp only [aggK_eq]
      cases x <;> rfl
    | succ o => rw [if_neg (fun h => by cases h.2)]
  · rw [if_neg h1, if_neg (fun h => h1 h.1)]

noncomputable def stObj (H : FH) (id off : Nat) (new : List AV) (k : FH → FOut) : FOut := ifK (Nat.ble H.ro id) .bad (objK (lookF id H.bl) .bad fun cs => ifK (Nat.ble (Nat.add off (lenF new)) (lenF cs)) .bad (k (H.put id (some (.obj (putX cs off new))))))
noncomputable def stArr (H : FH) (id ver i off : Nat) (new : List AV) (k : FH → FOut) : FOut := ifK (Nat.ble H.ro id) .bad (arrK (lookF id H.bl) .bad fun n z l xs => ifK (Nat.beq l ver) .bad (optK (nthF xs i) .bad fun x => ifK (Nat.ble (Nat.add off (lenF new)) (ncellsF x)) .bad (k (H.put id (some (.arr n z l (setN xs i (putE x off new))))))))
noncomputable def sSt (sz : Nat) (a v : Opd) : OpM := fun _ _ e H => avK v e .bad fun w => ifK (Nat.beq (ncellsF w) sz) .bad (adrK (slF a e) .bad
  (fun s off => lvK s e .bad fun cs => ifK (Nat.ble (Nat.add off sz) (lenF cs)) .bad (.go .nrm (.cons s (.lv (putX cs off (cellsF w))) e) H))
  (fun _ => .bad) (fun id off => stObj H id off (cellsF w) fun H' => .go .nrm e H') (fun id ver i off => stArr H id ver i off (cellsF w) fun H' => .go .nrm e H'))
noncomputable def sSto (sz : Nat) (a v : Opd) : OpM := fun _ d e H => avK v e .bad fun w => ifK (Nat.beq (ncellsF w) sz) .bad (adrK (slF a e) .bad
  (fun _ _ => .bad) (fun _ => .bad) (fun id off => stObj H id off (cellsF w) fun H' => .go .nrm (setF d .un e) H') (fun id ver i off => stArr H id ver i off (cellsF w) fun H' => .go .nrm (setF d .un e) H'))

noncomputable def bytesF : List UInt8 → List AV := @List.rec UInt8 (fun _ => List AV) [] (fun b _ ih => .int .u8 (.ofNat b.toNat) :: ih)
theorem bytesF_eq (s : List UInt8) : bytesF s = s.map fun b => .int .u8 b.toNat := by
  induction s with
  | nil => rfl
  | cons b s ih => show AV.int .u8 (.ofNat b.toNat) :: bytesF s = _; rw [ih]; rfl
noncomputable def elemsK (H : FH) (sz : Nat) (v : AV) (k : List AV → FOut) : FOut := slcK v (strK v .bad fun s => ifK (Nat.beq sz 1) .bad (k (bytesF s)))
  (fun _ xs => ifK (cellsAll sz xs) .bad (k xs)) (k [])
  fun id ver lo len => arrK (lookF id H.bl) .bad fun _ z l xs => ifK (Nat.beq z sz) .bad (ifK (Nat.beq l ver) .bad (ifK (Nat.ble (Nat.add lo len) ver) .bad (k (takeF len (dropF lo xs)))))
theorem elemsK_eq {H : FH} (hH : H.ok) (sz : Nat) (v : AV) (k : List AV → FOut) : elemsK H sz v k = match elemsOf H.heap sz v with | some ys => k ys | none => .bad := by
  simp only [elemsK, slcK_eq, strK_eq, ifK_all, arrK_eq H hH, ifK_beq, ifK_ble, bytesF_eq, takeF_eq, dropF_eq, Nat.add_eq]
  cases v <;> simp only [elemsOf]
  case list n xs => split <;> rfl
  case str s => split <;> rfl
  case ms id ver lo len =>
    cases H.heap.get id with
    | none => rfl
    | some b =>
      cases b <;> try rfl
      rename_i n z xs
      simp only
      by_cases h1 : z = sz
      · by_cases h2 : xs.length = ver
        · by_cases h3 : lo + len ≤ ver
          · rw [if_pos h1, if_pos h2, if_pos h3, if_pos ⟨h1, h2, h3⟩]
          · rw [if_pos h1, if_pos h2, if_neg h3, if_neg (fun h => h3 h.2.2)]
        · rw [if_pos h1, if_neg h2, if_neg (fun h => h2 h.2.1)]
      · rw [if_neg h1, if_neg (fun h => h1 h.1)]

noncomputable def emptyF {α : Type} (l : List α) : Bool := @List.rec α (fun _ => Bool) true (fun _ _ _ => false) l
theorem emptyF_eq {α : Type} (l : List α) : emptyF l = l.isEmpty := by cases l <;> rfl
noncomputable def andF (a b : Bool) : Bool := @Bool.rec (fun _ => Bool) false b a
theorem andF_eq (a b : Bool) : andF a b = (a && b) := by cases a <;> rfl
noncomputable def spliceF (xs ys : List AV) (s ny : Nat) : List AV := appF (takeF s xs) (appF ys (dropF (Nat.add s ny) xs))

noncomputable def appNil (d : Option Nat) (e : FE) (H : FH) (sz ny : Nat) (ys : List AV) (nl : Bool) : FOut := ifK (Nat.ble ny 1073741824) .bad (newK H (.arr nl sz ny ys) fun i H' => .go .nrm (setF d (.v (.ms i ny 0 ny)) e) H')
noncomputable def appOn (d : Option Nat) (e : FE) (H : FH) (sz ny : Nat) (ys : List AV) (id ver lo len : Nat) : FOut := ifK (Nat.ble H.ro id) .bad (arrK (lookF id H.bl) .bad fun n z l xs =>
  ifK (Nat.beq z sz) .bad (ifK (Nat.beq l ver) .bad (ifK (Nat.ble (Nat.add l ny) 1073741824) .bad
    (ifK (andF (Nat.beq lo 0) (Nat.beq len ver))
      (ifK (Nat.ble (Nat.add (Nat.add lo len) ny) ver) .bad (natK (Nat.add len ny) fun l' => .go .nrm (setF d (.v (.ms id ver lo l')) e) (H.put id (some (.arr n z l (spliceF xs ys (Nat.add lo len) ny))))))
      (natK (Nat.add ver ny) fun v' => natK (Nat.add len ny) fun l' => boolK (andF n (emptyF ys)) fun n' => .go .nrm (setF d (.v (.ms id v' 0 l')) e) (H.put id (some (.arr n' z v' (appF xs ys)))))))))
noncomputable def sApp (sz : Nat) (b x : Opd) : OpM := fun _ d e H => avK b e .bad fun u => avK x e .bad fun v => elemsK H sz v fun ys => natK (lenF ys) fun ny => slcK u .bad
  (fun n xs => @Bool.rec (fun _ => FOut) .bad (@List.rec AV (fun _ => FOut) (appNil d e H sz ny ys (emptyF ys)) (fun _ _ _ => .bad) xs) n)
  (@Nat.rec (fun _ => FOut) (.go .nrm (setF d (.v .cap0) e) H) (fun _ _ => appNil d e H sz ny ys false) ny)
  (fun id ver lo len => appOn d e H sz ny ys id ver lo len)
noncomputable def sApz (sz : Nat) (z : AV) (b n : Opd) : OpM := fun _ d e H => avK b e .bad fun u => avK n e .bad fun v => slcK u .bad
  (fun nl xs => @Bool.rec (fun _ => FOut) .bad (@List.rec AV (fun _ => FOut) (intK v .bad fun q k => ifK (Nat.beq (kcode q) 3) .bad (nnK k .bad fun m => ifK (Nat.ble 1 m) .bad (ifK (Nat.ble m 1073741824) .bad (ifK (Nat.beq (ncellsF z) sz) .bad
    (newK H (.arr false sz m (repF m z)) fun i H' => .go .nrm (setF d (.v (.ms i m 0 m)) e) H'))))) (fun _ _ _ => .bad) xs) nl) .bad fun _ _ _ _ => .bad
noncomputable def sMks (sz : Nat) (z : AV) (n : Opd) : OpM := fun _ d e H => avK n e .bad fun v => intK v .bad fun _ k => nnK k .bad fun m => ifK (Nat.ble m 1073741824) .bad (ifK (Nat.beq (ncellsF z) sz) .bad
    (newK H (.arr false sz m (repF m z)) fun i H' => .go .nrm (setF d (.v (.ms i m 0 m)) e) H'))
noncomputable def sMkm (z : AV) (n : Nat) (ps : List (Nat × Opd)) : OpM := fun _ d e H => partsF ps e .bad fun l => mklK l (repF n z) .bad fun xs => natK (lenF xs) fun m => natK (ncellsF z) fun sz => newK H (.arr false sz m xs) fun i H' => .go .nrm (setF d (.v (.ms i m 0 m)) e) H'
noncomputable def sClr (sz : Nat) (z : AV) (x : Opd) : OpM := fun _ d e H => avK x e .bad fun v => slcK v .bad (fun _ _ => .bad) .bad fun id ver lo len => ifK (Nat.ble H.ro id) .bad (arrK (lookF id H.bl) .bad fun n w l xs =>
  ifK (Nat.beq w sz) .bad (ifK (Nat.beq (ncellsF z) sz) .bad (ifK (Nat.beq l ver) .bad (ifK (Nat.ble (Nat.add lo len) ver) .bad (.go .nrm (setF d (.v (.tup [])) e) (H.put id (some (.arr n w l (spliceF xs (repF len z) lo len)))))))))

/-- arrays that become slices that are written no more -/
noncomputable def fzAllK (f : FH → AV → (AV → FH → FOut) → FOut) : List AV → FH → (List AV → FH → FOut) → FOut := @List.rec AV (fun _ => FH → (List AV → FH → FOut) → FOut) (fun H k => k [] H) (fun x _ ih H k => f H x fun y H1 => ih H1 fun ys H2 => k (y :: ys) H2)
noncomputable def fzSl (deep : Bool) (ih : FH → AV → (AV → FH → FOut) → FOut) (H : FH) (x : AV) (k : AV → FH → FOut) : FOut := slcK x (k x H) (fun _ _ => k x H) (k (.list false []) H)
  fun id ver lo len => ifK (Nat.ble H.ro id) .bad (arrK (lookF id H.bl) .bad fun n _ l xs => ifK (Nat.beq l ver) .bad (ifK (Nat.ble (Nat.add lo len) ver) .bad
    (@Bool.rec (fun _ => FOut) (k (.list n (takeF len (dropF lo xs))) (H.put id none)) (fzAllK ih (takeF len (dropF lo xs)) (H.put id none) fun ys H' => k (.list n ys) H') deep)))
noncomputable def oneF (v : AV) : Bool := @AV.casesOn (fun _ => Bool) v false (fun _ => true) (fun _ _ => true) (fun _ => true) (fun _ _ => true) (fun _ _ => true) true (fun _ _ _ _ => true) (fun _ => true) true (fun _ _ => true) (fun _ _ _ _ => true) (fun _ _ => true) true (fun _ _ => true) true (fun _ => false) (fun _ => false) (fun _ => true) true
theorem oneF_eq (v : AV) : oneF v = v.one := by cases v <;> rfl
noncomputable def deepF (f : Fz) : Bool := @Fz.casesOn (fun _ => Bool) f false (fun _ => true) (fun _ _ _ => true)
noncomputable def fzK : Fz → FH → AV → (AV → FH → FOut) → FOut := @Fz.rec (fun _ => FH → AV → (AV → FH → FOut) → FOut) (fun H x k => k x H) (fun f ih => fzSl (deepF f) ih)
  (fun i _ _ ihf ihr H x k => aggK x .bad fun cs => optK (nthF cs i) .bad fun c => ihf H c fun c' H1 => ifK (oneF c) .bad (ifK (oneF c') .bad (ihr H1 (.agg (setN cs i c')) k)))
noncomputable def sFrz (f : Fz) (s : Nat) : OpM := fun _ _ e H => @Sl.rec (fun _ => FOut) .bad .bad (fun x => fzK f H x fun y H' => .go .nrm (.cons s (.v y) e) H') (fun cs => fzK f H (.agg cs) fun y H' => aggK y .bad fun ds => .go .nrm (.cons s (.lv ds) e) H') (fun _ _ => .bad) (getF s e)

noncomputable def resK (r : FRes) (d : Option Nat) (e : FE) : FOut := @FRes.rec (fun _ => FOut) (fun v H => .go .nrm (setF d (.v v) e) H) (fun v H => .pan v H) .bad r
noncomputable def sCall (f : Nat) (args : List Opd) : OpM := fun cl d e H => allF args e .bad fun vs => resK (cl f vs H) d e
noncomputable def sameK (c : Nat × Nat × Bool × Opd) (e : FE) (H : FH) (x : FOut) : FOut := @Sl.rec (fun _ => FOut) .bad .bad (fun y => ldK e H c.2.1 c.2.2.1 (.v y) .bad fun z => avT c.1 e .bad fun w => ifK (AV.same z w) .bad x) (fun _ => .bad) (fun _ _ => .bad) (slF c.2.2.2 e)
noncomputable def samesK (e : FE) (H : FH) (x : FOut) : List (Nat × Nat × Bool × Opd) → FOut := @List.rec (Nat × Nat × Bool × Opd) (fun _ => FOut) x (fun c _ ih => sameK c e H ih)
noncomputable def sCallc (f : Nat) (args : List Opd) (cs : List (Nat × Nat × Bool × Opd)) : OpM := fun cl d e H => allF args e .bad fun vs => @FRes.rec (fun _ => FOut) (fun v H' => samesK (setF d (.v v) e) H' (.go .nrm (setF d (.v v) e) H') cs) (fun _ _ => .bad) .bad (cl f vs H)
noncomputable def sCallv (f : Opd) (args : List Opd) : OpM := fun cl d e H => avK f e .bad fun fv => allF args e .bad fun vs => fnK fv .bad fun g cap => resK (cl g (appF vs cap) H) d e
noncomputable def ifcK (v : AV) (d : FOut) (f : Nat → AV → FOut) : FOut := @AV.casesOn (fun _ => FOut) v d (fun _ => d) (fun _ _ => d) (fun _ => d) (fun _ _ => d) (fun _ _ => d) d (fun _ _ _ _ => d) (fun _ => d) d (fun _ _ => d) (fun _ _ _ _ => d) (fun _ _ => d) d f d (fun _ => d) (fun _ => d) (fun _ => d) d
theorem ifcK_eq (v : AV) (d : FOut) (f : Nat → AV → FOut) : ifcK v d f = match v with | .iface t x => f t x | _ => d := by cases v <;> rfl
noncomputable def sPan (x : Opd) : OpM := fun _ _ e H => avK x e .bad fun v => ifcK v .bad fun t u => .pan (.iface t u) H

noncomputable def opK : AOp → OpM := @AOp.rec (fun _ => OpM)
  (fun x0 => pvO (oMv x0))
  (fun x0 x1 x2 => pvO (oPick x0 x1 x2))
  (fun x0 x1 x2 => pvO (oBin x0 x1 x2))
  (fun x0 x1 x2 x3 => pvO (oEq x0 x1 x2 x3))
  (fun x0 x1 => pvO (oUn x0 x1))
  (fun x0 x1 => pvO (oCvi x0 x1))
  (fun x0 => pvO (oG (.cvb x0)))
  (fun x0 => pvO (oG (.cvs x0)))
  (fun x0 => pvO (oG (.cvl x0)))
  (fun x0 x1 x2 => pvO (oMkl x0 x1 x2))
  (fun x0 x1 x2 => sMkm x0 x1 x2)
  (fun x0 x1 => pvO (oBld x0 x1))
  (fun x0 x1 x2 x3 => pvO (oFa x0 x1 x2 x3))
  (fun x0 x1 x2 x3 x4 => pvO (oIa x0 x1 x2 x3 x4))
  (fun x0 x1 x2 => pvO (oIx x0 x1 x2))
  (fun x0 x1 x2 => pvO (oLd x0 x1 x2))
  (fun x0 x1 x2 => pvO (oLdl x0 x1 x2))
  (fun x0 x1 x2 => pvO (oLdi x0 x1 x2))
  (fun x0 x1 x2 => pvO (oLdp x0 x1 x2))
  (fun x0 x1 x2 => pvO (oLdo x0 x1 x2))
  (fun x0 x1 x2 => pvO (oIxl x0 x1 x2))
  (fun x0 x1 x2 x3 => pvO (oFld x0 x1 x2 x3))
  (fun x0 x1 x2 x3 x4 => pvO (oIxa x0 x1 x2 x3 x4))
  (fun x0 x1 => pvO (oIxs x0 x1))
  (fun x0 => pvO (oLen x0))
  (fun x0 => pvO (oLns x0))
  (fun x0 => pvO (oG (.cap x0)))
  (fun x0 x1 x2 x3 x4 => pvO (oSl x0 x1 x2 x3 x4))
  (fun x0 x1 x2 => pvO (oSs x0 x1 x2))
  (fun x0 x1 => pvO (oExt x0 x1))
  (fun x0 x1 => pvO (oMkif x0 x1))
  (fun x0 x1 x2 x3 => pvO (oG (.tas x0 x1 x2 x3)))
  (fun x0 x1 => pvO (oMkfn x0 x1))
  (fun x0 => pvO (oNilc x0))
  (fun x0 x1 x2 => pvO (oG (.mnmx x0 x1 x2)))
  (fun x0 => sAlv x0)
  (fun x0 x1 => sBlv x0 x1)
  (fun x0 x1 => pvO (oBim x0 x1))
  (fun x0 x1 x2 x3 => pvO (oG (.sla x0 x1 x2 x3)))
  (fun x0 => sAob x0)
  (fun x0 x1 => sBob x0 x1)
  (fun x0 x1 x2 => sSt x0 x1 x2)
  (fun x0 x1 x2 => sSto x0 x1 x2)
  (fun x0 x1 x2 => sApp x0 x1 x2)
  (fun x0 x1 x2 x3 => sApz x0 x1 x2 x3)
  (fun x0 x1 x2 => sMks x0 x1 x2)
  (fun _ _ _ _ _ _ _ => .bad)
  (fun x0 x1 x2 => sClr x0 x1 x2)
  (fun _ _ _ _ _ _ => .bad)
  (fun x0 x1 => sFrz x0 x1)
  (fun x0 x1 => sCall x0 x1)
  (fun x0 x1 x2 => sCallc x0 x1 x2)
  (fun x0 x1 => sCallv x0 x1)
  (fun x0 => sPan x0)

/-! ### what it answers is what the small language answers -/
def Agr (o : FOut) (r : Option Out) : Prop := match o with
  | .go x e H => r = some (.go x e.env H.heap) ∧ H.ok
  | .pan v H => (∃ e, r = some (.pan v e H.heap)) ∧ H.ok
  | .bad => True

def AgrC (cl : FCaller) (c : Caller) : Prop := ∀ f vs H, H.ok → match cl f vs H with
  | .ret v H' => c f vs H.heap = some (.ret v H'.heap) ∧ H'.ok
  | .pan v H' => c f vs H.heap = some (.pan v H'.heap) ∧ H'.ok
  | .bad => True

section
variable {cl : FCaller} {c : Caller} {d : Option Nat} {e : FE} {H : FH}

theorem agr_pv {op : AOp} {o : ∀ {α : Type}, FE → FH → α → (Sl → α) → α} (hop : opS c d e.env H.heap op = match opv e.env H.heap op with | some x => some (.go .nrm (setDst d x e.env) H.heap) | none => none) (h : PvOK op o) (hH : H.ok) :
    Agr (pvO o cl d e H) (opS c d e.env H.heap op) := by
  rw [hop]
  simp only [pvO, h e H hH]
  cases opv e.env H.heap op with
  | none => trivial
  | some x => exact ⟨by rw [setF_eq], hH⟩

theorem notLvK_agr {s : Nat} {x : FOut} {r : Option Out} (h : (∀ c, e.env.get s ≠ .lv c) → Agr x r) : Agr (notLvK s e x) r := by
  simp only [notLvK, getF_eq]
  cases hq : e.env.get s with
  | lv c => trivial
  | _ => exact h (fun c hc => by rw [hq] at hc; cases hc)

theorem ite_agr {p : Prop} [Decidable p] {x : FOut} {r : Option Out} (h : p → Agr x r) : Agr (if p then x else .bad) r := by
  by_cases hp : p
  · rw [if_pos hp]; exact h hp
  · rw [if_neg hp]; trivial

theorem optK_agr {β : Type} {o : Option β} {k : β → FOut} {r : Option Out} (h : ∀ x, o = some x → Agr (k x) r) : Agr (optK o .bad k) r := by
  cases o with
  | none => trivial
  | some x => exact h x rfl
theorem avK_agr {o : Opd} {k : AV → FOut} {r : Option Out} (h : ∀ x, e.env.av o = some x → Agr (k x) r) : Agr (avK o e .bad k) r := by
  rw [avK_eq]
  cases hq : e.env.av o with
  | none => trivial
  | some x => exact h x hq
theorem beq_agr {a b : Nat} {x : FOut} {r : Option Out} (h : a = b → Agr x r) : Agr (ifK (Nat.beq a b) .bad x) r := by rw [ifK_beq]; exact ite_agr h
theorem ble_agr {a b : Nat} {x : FOut} {r : Option Out} (h : a ≤ b → Agr x r) : Agr (ifK (Nat.ble a b) .bad x) r := by rw [ifK_ble]; exact ite_agr h
theorem boo_agr {b : Bool} {x : FOut} {r : Option Out} (h : b = true → Agr x r) : Agr (ifK b .bad x) r := by cases b; trivial; exact h rfl
theorem elems_agr (hH : H.ok) {sz : Nat} {v : AV} {k : List AV → FOut} {r : Option Out} (h : ∀ ys, elemsOf H.heap sz v = some ys → Agr (k ys) r) : Agr (elemsK H sz v k) r := by
  rw [elemsK_eq hH]
  cases hq : elemsOf H.heap sz v with
  | none => trivial
  | some x => exact h x hq
theorem all_agr {l : List Opd} {k : List AV → FOut} {r : Option Out} (h : ∀ vs, allAV e.env l = some vs → Agr (k vs) r) : Agr (allF l e .bad k) r := by
  rw [allF_eq]
  cases hq : allAV e.env l with
  | none => trivial
  | some x => exact h x hq
theorem parts_agr {κ : Type} {l : List (κ × Opd)} {k : List (κ × AV) → FOut} {r : Option Out} (h : ∀ vs, allParts e.env l = some vs → Agr (k vs) r) : Agr (partsF l e .bad k) r := by
  rw [partsF_eq]
  cases hq : allParts e.env l with
  | none => trivial
  | some x => exact h x hq
theorem mkl_agr {l : List (Nat × AV)} {xs : List AV} {k : List AV → FOut} {r : Option Out} (h : ∀ vs, mklAV xs l = some vs → Agr (k vs) r) : Agr (mklK l xs .bad k) r := by
  rw [mklK_eq]
  cases hq : mklAV xs l with
  | none => trivial
  | some x => exact h x hq
theorem arr_agr (hH : H.ok) {i : Nat} {k : Bool → Nat → Nat → List AV → FOut} {r : Option Out} (h : ∀ n z xs, H.heap.get i = some (.arr n z xs) → Agr (k n z xs.length xs) r) : Agr (arrK (lookF i H.bl) .bad k) r := by
  rw [arrK_eq H hH]
  cases hq : H.heap.get i with
  | none => trivial
  | some b =>
    cases b <;> try trivial
    exact h _ _ _ hq
theorem obj_agr {i : Nat} {k : List AV → FOut} {r : Option Out} (h : ∀ cs, H.heap.get i = some (.obj cs) → Agr (k cs) r) : Agr (objK (lookF i H.bl) .bad k) r := by
  rw [objK_eq]
  cases hq : H.heap.get i with
  | none => trivial
  | some b =>
    cases b <;> try trivial
    exact h _ hq
theorem lv_agr {s : Nat} {k : List AV → FOut} {r : Option Out} (h : ∀ cs, e.env.get s = .lv cs → Agr (k cs) r) : Agr (lvK s e .bad k) r := by
  rw [lvK_eq]
  cases hq : e.env.get s <;> try trivial
  exact h _ hq
theorem new_agr {b : FBlk} {k : Nat → FH → FOut} {r : Option Out} (h : Agr (k H.next (H.new b)) r) : Agr (newK H b k) r := by rw [newK_eq]; exact h
theorem int_agr {v : AV} {k : IntKind → Int → FOut} {r : Option Out} (h : ∀ q n, v = .int q n → Agr (k q n) r) : Agr (intK v .bad k) r := by
  rw [intK_eq]
  cases v <;> try trivial
  exact h _ _ rfl
theorem nn_agr {n : Int} {k : Nat → FOut} {r : Option Out} (h : 0 ≤ n → Agr (k n.toNat) r) : Agr (nnK n .bad k) r := by rw [nnK_eq]; exact ite_agr h

theorem agrAlv {cs : List AV} (hH : H.ok) : Agr (sAlv cs cl d e H) (opS c d e.env H.heap (.alv cs)) := by
  cases d with
  | none => trivial
  | some s =>
    refine notLvK_agr fun hn => ⟨?_, hH⟩
    simp only [opS]
    cases hq : e.env.get s with
    | lv c => exact absurd hq (hn c)
    | _ => rfl

theorem agrBlv {sz : Nat} {x : Opd} (hH : H.ok) : Agr (sBlv sz x cl d e H) (opS c d e.env H.heap (.blv sz x)) := by
  cases d with
  | none => trivial
  | some s =>
    refine avK_agr fun v hv => notLvK_agr fun hn => beq_agr fun hl => ⟨?_, hH⟩
    rw [ncellsF_eq] at hl
    simp only [opS, hv]
    cases hq : e.env.get s with
    | lv c => exact absurd hq (hn c)
    | _ => simp only [if_pos hl, cellsF_eq]; rfl

theorem ok_obj {H : FH} (h : H.ok) (cs : List AV) : (H.new (.obj cs)).ok := ok_new h (fun _ _ _ _ e => by cases e)
theorem ok_arr {H : FH} (h : H.ok) {n : Bool} {z l : Nat} {xs : List AV} (hl : l = xs.length) : (H.new (.arr n z l xs)).ok := ok_new h (fun _ _ _ _ e => by cases e; exact hl)
theorem ok_putO {H : FH} (h : H.ok) (i : Nat) (cs : List AV) : (H.put i (some (.obj cs))).ok := ok_put h i (fun _ _ _ _ e => by cases e)
theorem ok_putA {H : FH} (h : H.ok) (i : Nat) {n : Bool} {z l : Nat} {xs : List AV} (hl : l = xs.length) : (H.put i (some (.arr n z l xs))).ok := ok_put h i (fun _ _ _ _ e => by cases e; exact hl)
theorem ok_putN {H : FH} (h : H.ok) (i : Nat) : (H.put i none).ok := ok_put h i (fun _ _ _ _ e => by cases e)

theorem agrAob {cs : List AV} (hH : H.ok) : Agr (sAob cs cl d e H) (opS c d e.env H.heap (.aob cs)) :=
  new_agr ⟨by simp only [opS, setF_eq, heap_new]; rfl, ok_obj hH cs⟩
theorem agrBob {sz : Nat} {x : Opd} (hH : H.ok) : Agr (sBob sz x cl d e H) (opS c d e.env H.heap (.bob sz x)) := by
  refine avK_agr fun v hv => beq_agr fun hl => new_agr ⟨?_, ok_obj hH _⟩
  rw [ncellsF_eq] at hl
  simp only [opS, hv, if_pos hl, setF_eq, heap_new, cellsF_eq]; rfl

theorem stObj_agr {id off : Nat} {new : List AV} {k : FH → FOut} {r : Option Out} (h : ∀ H', stS e.env H.heap new (.v (.ptr id off)) = some (e.env, H'.heap) → (H.ok → H'.ok) → Agr (k H') r) : Agr (stObj H id off new k) r := by
  refine ble_agr fun hro => obj_agr fun cs hg => ble_agr fun hl => h _ ?_ (fun hH => ok_putO hH _ _)
  rw [lenF_eq, lenF_eq] at hl
  have hl' : off + new.length ≤ cs.length := hl
  simp only [stS]
  rw [if_neg (show ¬ id < H.heap.ro from by show ¬ id < H.ro; omega)]
  simp only [hg, if_pos hl', heap_put, putX_eq hl']
  rfl
theorem stArr_agr (hH : H.ok) {id ver i off : Nat} {new : List AV} {k : FH → FOut} {r : Option Out} (h : ∀ H', stS e.env H.heap new (.v (.ap id ver i off)) = some (e.env, H'.heap) → H'.ok → Agr (k H') r) : Agr (stArr H id ver i off new k) r := by
  refine ble_agr fun hro => arr_agr hH fun n z xs hg => beq_agr fun hv => optK_agr fun x hx => ble_agr fun hl => h _ ?_ (ok_putA hH _ (by rw [setN_eq, List.length_set]))
  rw [lenF_eq, ncellsF_eq] at hl
  have hl' : off + new.length ≤ x.cells.length := hl
  rw [nthF_eq] at hx
  simp only [stS]
  rw [if_neg (show ¬ id < H.heap.ro from by show ¬ id < H.ro; omega)]
  simp only [hg, if_pos hv, hx, if_pos hl', heap_put, putE_eq hl', setN_eq]
  rfl

theorem agrSt {sz : Nat} {a v : Opd} (hH : H.ok) : Agr (sSt sz a v cl d e H) (opS c d e.env H.heap (.st sz a v)) := by
  refine avK_agr fun w hw => beq_agr fun hl => ?_
  rw [ncellsF_eq] at hl
  simp only [opS, hw, if_pos hl, slF_eq, cellsF_eq]
  rw [adrK_eq]
  cases ha : e.env.sl a with
  | no => trivial
  | un => trivial
  | lv c => trivial
  | lp s off =>
    refine lv_agr fun cs hcs => ble_agr fun hle => ⟨?_, hH⟩
    rw [lenF_eq] at hle
    subst hl
    have hle' : off + w.cells.length ≤ cs.length := hle
    simp only [stS, hcs, if_pos hle', putX_eq hle']
    rfl
  | v y =>
    cases y <;> try trivial
    · refine stObj_agr (e := e) fun H' hs ho => ⟨?_, ho hH⟩
      simp only [hs]
    · refine stArr_agr (e := e) hH fun H' hs ho => ⟨?_, ho⟩
      simp only [hs]
theorem agrSto {sz : Nat} {a v : Opd} (hH : H.ok) : Agr (sSto sz a v cl d e H) (opS c d e.env H.heap (.sto sz a v)) := by
  refine avK_agr fun w hw => beq_agr fun hl => ?_
  rw [ncellsF_eq] at hl
  simp only [slF_eq, cellsF_eq]
  rw [adrK_eq]
  cases ha : e.env.sl a with
  | no => trivial
  | un => trivial
  | lv c => trivial
  | lp s off => trivial
  | v y =>
    cases y <;> try trivial
    · refine stObj_agr (e := e) fun H' hs ho => ⟨?_, ho hH⟩
      simp only [opS, ha, hw, if_pos hl, hs, setF_eq]
    · refine stArr_agr (e := e) hH fun H' hs ho => ⟨?_, ho⟩
      simp only [opS, ha, hw, if_pos hl, hs, setF_eq]

theorem most_eq : mostLen = 1073741824 := rfl
theorem spliceF_eq (xs ys : List AV) (s : Nat) : spliceF xs ys s ys.length = xs.take s ++ ys ++ xs.drop (s + ys.length) := by simp only [spliceF, appF_eq, takeF_eq, dropF_eq, List.append_assoc, Nat.add_eq]

theorem agrApp {sz : Nat} {b x : Opd} (hH : H.ok) : Agr (sApp sz b x cl d e H) (opS c d e.env H.heap (.app sz b x)) := by
  refine avK_agr fun u hu => avK_agr fun v hv => elems_agr hH fun ys hys => ?_
  rw [natK_eq, lenF_eq, slcK_eq]
  simp only [opS, hu, hv, appS, hys]
  cases u <;> try trivial
  case list n xs =>
    cases n <;> cases xs <;> try trivial
    refine ble_agr fun hl => new_agr ⟨?_, ok_arr hH rfl⟩
    have hl' : ys.length ≤ mostLen := hl
    simp only [if_pos hl', setF_eq, heap_new, emptyF_eq]; rfl
  case cap0 =>
    cases ys with
    | nil => exact ⟨by simp [setF_eq], hH⟩
    | cons y ys =>
      refine ble_agr fun hl => new_agr ⟨?_, ok_arr hH rfl⟩
      have hl' : ys.length + 1 ≤ mostLen := hl
      simp only [List.length_cons, if_pos hl', List.isEmpty_cons, Bool.false_eq_true, if_false, setF_eq, heap_new]; rfl
  case ms id ver lo len =>
    refine ble_agr fun hro => arr_agr hH fun n z xs hg => beq_agr fun hz => beq_agr fun hl => ble_agr fun hm => ?_
    have hm' : xs.length + ys.length ≤ mostLen := hm
    simp only
    rw [if_neg (show ¬ id < H.heap.ro from by show ¬ id < H.ro; omega)]
    simp only [hg]
    rw [if_pos ⟨hz, hl, hm'⟩]
    by_cases hc : lo = 0 ∧ len = ver
    · obtain ⟨rfl, rfl⟩ := hc
      simp only [and_self, if_true]
      have : ∀ p q : FOut, ifK (andF (Nat.beq 0 0) (Nat.beq len len)) p q = q := fun p q => by
        rw [show Nat.beq len len = true from Nat.beq_refl len]; rfl
      rw [this]
      simp only [natK_eq, boolK_eq]
      refine ⟨?_, ok_putA hH _ (by rw [appF_eq, List.length_append, hl]; rfl)⟩
      simp only [setF_eq, heap_put, andF_eq, emptyF_eq, appF_eq]; rfl
    · rw [if_neg hc]
      have : ∀ p q : FOut, ifK (andF (Nat.beq lo 0) (Nat.beq len ver)) p q = p := fun p q => by
        cases h1 : Nat.beq lo 0 with
        | false => rfl
        | true =>
          cases h2 : Nat.beq len ver with
          | false => rfl
          | true => exact absurd ⟨Nat.eq_of_beq_eq_true h1, Nat.eq_of_beq_eq_true h2⟩ hc
      rw [this]
      refine ble_agr fun hle => ?_
      have hle' : lo + len + ys.length ≤ ver := hle
      rw [natK_eq]
      have hs := spliceF_eq xs ys (lo + len)
      refine ⟨?_, ok_putA hH _ ?_⟩
      · simp only [if_pos hle', setF_eq, heap_put, Nat.add_eq, hs]; rfl
      · simp only [Nat.add_eq, hs]; simp; omega

theorem agrApz {sz : Nat} {z : AV} {b n : Opd} (hH : H.ok) : Agr (sApz sz z b n cl d e H) (opS c d e.env H.heap (.apz sz z b n)) := by
  refine avK_agr fun u hu => avK_agr fun v hv => ?_
  rw [slcK_eq]
  simp only [opS, hu, hv]
  cases u <;> try trivial
  case list nl xs =>
    cases nl <;> cases xs <;> try trivial
    refine int_agr fun q k hq => beq_agr fun hk => nn_agr fun h0 => ble_agr fun h1 => ble_agr fun h2 => beq_agr fun h3 => new_agr ⟨?_, ok_arr hH (by rw [repF_eq]; simp)⟩
    subst hq
    rw [ncellsF_eq] at h3
    cases q <;> first | (cases hk; done) | skip
    have hm : (mostLen : Int) = 1073741824 := rfl
    simp only
    rw [if_pos ⟨by omega, by omega, h3⟩]
    simp only [setF_eq, heap_new, repF_eq]; rfl

theorem agrMks {sz : Nat} {z : AV} {n : Opd} (hH : H.ok) : Agr (sMks sz z n cl d e H) (opS c d e.env H.heap (.mks sz z n)) := by
  refine avK_agr fun v hv => int_agr fun q k hq => nn_agr fun h0 => ble_agr fun h2 => beq_agr fun h3 => new_agr ⟨?_, ok_arr hH (by rw [repF_eq]; simp)⟩
  subst hq
  rw [ncellsF_eq] at h3
  have hm : (mostLen : Int) = 1073741824 := rfl
  simp only [opS, hv]
  rw [if_pos ⟨h0, by omega, h3⟩]
  simp only [setF_eq, heap_new, repF_eq]; rfl

theorem agrMkm {z : AV} {n : Nat} {ps : List (Nat × Opd)} (hH : H.ok) : Agr (sMkm z n ps cl d e H) (opS c d e.env H.heap (.mkm z n ps)) := by
  refine parts_agr fun l hl => mkl_agr fun xs hxs => ?_
  rw [natK_eq, natK_eq]
  refine new_agr ⟨?_, ok_arr hH (lenF_eq xs)⟩
  rw [repF_eq] at hxs
  simp only [opS, hl, hxs, setF_eq, heap_new, lenF_eq, ncellsF_eq]; rfl

theorem agrClr {sz : Nat} {z : AV} {x : Opd} (hH : H.ok) : Agr (sClr sz z x cl d e H) (opS c d e.env H.heap (.clr sz z x)) := by
  refine avK_agr fun v hv => ?_
  rw [slcK_eq]
  simp only [opS, hv]
  cases v <;> try trivial
  rename_i id ver lo len
  simp only
  refine ble_agr fun hro => arr_agr hH fun n w xs hg => beq_agr fun h1 => beq_agr fun h2 => beq_agr fun h3 => ble_agr fun h4 => ?_
  rw [ncellsF_eq] at h2
  rw [if_neg (show ¬ id < H.heap.ro from by show ¬ id < H.ro; omega)]
  simp only [hg]
  rw [if_pos ⟨h1, h2, h3, h4⟩]
  have hs := spliceF_eq xs (repF len z) lo
  rw [repF_eq, List.length_replicate] at hs
  have h4' : lo + len ≤ ver := h4
  refine ⟨?_, ok_putA hH _ ?_⟩
  · simp only [setF_eq, heap_put, repF_eq, hs]; rfl
  · rw [repF_eq, hs]; simp; omega

/-- freezing -/
def FzAgr (f : Heap → AV → Option (AV × Heap)) (g : FH → AV → (AV → FH → FOut) → FOut) : Prop :=
  ∀ (H : FH) (x : AV) (k : AV → FH → FOut) (r : Option Out), H.ok → (∀ y H', f H.heap x = some (y, H'.heap) → H'.ok → Agr (k y H') r) → Agr (g H x k) r

theorem fzAll_agr {f : Heap → AV → Option (AV × Heap)} {g : FH → AV → (AV → FH → FOut) → FOut} (hf : FzAgr f g) {xs : List AV} : ∀ {H : FH} {k : List AV → FH → FOut} {r : Option Out}, H.ok →
    (∀ ys H', fzAll f H.heap xs = some (ys, H'.heap) → H'.ok → Agr (k ys H') r) → Agr (fzAllK g xs H k) r := by
  induction xs with
  | nil => intro H k r hH h; exact h [] H rfl hH
  | cons x xs ih =>
    intro H k r hH h
    show Agr (g H x fun y H1 => fzAllK g xs H1 fun ys H2 => k (y :: ys) H2) r
    refine hf _ _ _ _ hH fun y H1 h1 hH1 => ih hH1 fun ys H2 h2 hH2 => h _ _ ?_ hH2
    simp only [fzAll, h1, h2]

theorem fz_agr : ∀ f : Fz, FzAgr (fzV f) (fzK f)
  | .no => fun H x k r hH h => h x H rfl hH
  | .sl f => fun H x k r hH h => by
    show Agr (fzSl (deepF f) (fzK f) H x k) r
    simp only [fzSl]
    rw [slcK_eq]
    cases x <;> (try (exact h _ H rfl hH; done))
    rename_i id ver lo len
    simp only
    refine ble_agr fun hro => arr_agr hH fun n z xs hg => beq_agr fun h1 => ble_agr fun h2 => ?_
    have h2' : lo + len ≤ ver := h2
    rw [takeF_eq, dropF_eq]
    have hput : (H.put id none).heap = H.heap.put id none := heap_put H id none
    have base : ∀ o, (match (generalizing := false) f with
          | .no => some (AV.list n ((xs.drop lo).take len), H.heap.put id none)
          | f => match fzAll (fzV f) (H.heap.put id none) ((xs.drop lo).take len) with
            | some (ys, H') => some (.list n ys, H')
            | none => none) = o → fzV (.sl f) H.heap (.ms id ver lo len) = o := fun o ho => by
      simp only [fzV]
      rw [if_neg (show ¬ id < H.heap.ro from by show ¬ id < H.ro; omega)]
      simp only [hg]
      rw [if_pos ⟨h1, h2'⟩]
      exact ho
    cases f with
    | no =>
      refine h _ (H.put id none) (base _ ?_) (ok_putN hH id)
      rw [hput]
    | sl g =>
      refine fzAll_agr (fz_agr (.sl g)) (ok_putN hH id) fun ys H' h3 hH' => h _ H' (base _ ?_) hH'
      rw [hput] at h3
      simp only [h3]
    | ag i p q =>
      refine fzAll_agr (fz_agr (.ag i p q)) (ok_putN hH id) fun ys H' h3 hH' => h _ H' (base _ ?_) hH'
      rw [hput] at h3
      simp only [h3]
  | .ag i f q => fun H x k r hH h => by
    show Agr (aggK x .bad fun cs => optK (nthF cs i) .bad fun c => fzK f H c fun c' H1 => ifK (oneF c) .bad (ifK (oneF c') .bad (fzK q H1 (.agg (setN cs i c')) k))) r
    rw [aggK_eq]
    cases x <;> try trivial
    rename_i cs
    simp only
    refine optK_agr fun c' hc => fz_agr f _ _ _ _ hH fun c1 H1 h1 hH1 => boo_agr fun ho1 => boo_agr fun ho2 => fz_agr q _ _ _ _ hH1 fun y H2 h2 hH2 => h y H2 ?_ hH2
    rw [nthF_eq] at hc
    rw [oneF_eq] at ho1 ho2
    rw [setN_eq] at h2
    simp only [fzV, hc, h1, ho1, ho2, Bool.and_self, if_true, h2]

theorem agrFrz {f : Fz} {s : Nat} (hH : H.ok) : Agr (sFrz f s cl d e H) (opS c d e.env H.heap (.frz f s)) := by
  simp only [sFrz, getF_eq, opS]
  cases hq : e.env.get s with
  | no => trivial
  | un => trivial
  | lp a b => trivial
  | v x => exact fz_agr f _ _ _ _ hH fun y H' h1 hH' => ⟨by simp only [h1]; rfl, hH'⟩
  | lv cs =>
    refine fz_agr f _ _ _ _ hH fun y H' h1 hH' => ?_
    rw [aggK_eq]
    cases y <;> try trivial
    exact ⟨by simp only [h1]; rfl, hH'⟩

theorem agrCall (hcl : AgrC cl c) {f : Nat} {args : List Opd} (hH : H.ok) : Agr (sCall f args cl d e H) (opS c d e.env H.heap (.call f args)) := by
  refine all_agr fun vs hvs => ?_
  have := hcl f vs H hH
  simp only [opS, hvs, resK]
  cases hr : cl f vs H with
  | ret v H' => rw [hr] at this; exact ⟨by simp only [this.1, setF_eq], this.2⟩
  | pan v H' => rw [hr] at this; exact ⟨⟨e.env, by simp only [this.1]⟩, this.2⟩
  | bad => trivial
theorem sames_agr (hH : H.ok) {x : FOut} {r : Option Out} : ∀ {cs : List (Nat × Nat × Bool × Opd)}, (cs.all (sameLd e.env H.heap) = true → Agr x r) → Agr (samesK e H x cs) r
  | [], h => h rfl
  | c :: cs, h => by
    show Agr (sameK c e H (samesK e H x cs)) r
    simp only [sameK, slF_eq]
    cases hs : e.env.sl c.2.2.2 with
    | no => trivial
    | un => trivial
    | lv l => trivial
    | lp a b => trivial
    | v y =>
      simp only
      rw [ldK_eq hH]
      cases hz : ldS e.env H.heap c.2.1 c.2.2.1 (.v y) with
      | none => trivial
      | some z =>
        simp only [avT, getF_eq]
        cases hw : e.env.get c.1 with
        | no => trivial
        | un => trivial
        | lv l => trivial
        | lp a b => trivial
        | v w =>
          refine boo_agr fun hsame => sames_agr hH fun hall => h ?_
          simp only [List.all_cons, Bool.and_eq_true]
          refine ⟨?_, hall⟩
          simp only [sameLd, hs, hw, hz]
          exact hsame

theorem agrCallc (hcl : AgrC cl c) {f : Nat} {args : List Opd} {cs : List (Nat × Nat × Bool × Opd)} (hH : H.ok) : Agr (sCallc f args cs cl d e H) (opS c d e.env H.heap (.callc f args cs)) := by
  refine all_agr fun vs hvs => ?_
  have := hcl f vs H hH
  simp only [opS, hvs]
  cases hr : cl f vs H with
  | ret v H' =>
    rw [hr] at this
    refine sames_agr this.2 fun hall => ⟨?_, this.2⟩
    simp only [this.1, ← setF_eq, hall, if_true]
  | pan v H' => trivial
  | bad => trivial
theorem agrCallv (hcl : AgrC cl c) {f : Opd} {args : List Opd} (hH : H.ok) : Agr (sCallv f args cl d e H) (opS c d e.env H.heap (.callv f args)) := by
  refine avK_agr fun fv hf => all_agr fun vs hvs => ?_
  rw [fnK_eq]
  simp only [opS, hf, hvs]
  cases fv <;> try trivial
  rename_i g cap
  have := hcl g (vs ++ cap) H hH
  simp only [resK, appF_eq]
  cases hr : cl g (vs ++ cap) H with
  | ret v H' => rw [hr] at this; exact ⟨by simp only [this.1, setF_eq], this.2⟩
  | pan v H' => rw [hr] at this; exact ⟨⟨e.env, by simp only [this.1]⟩, this.2⟩
  | bad => trivial
theorem agrPan {x : Opd} (hH : H.ok) : Agr (sPan x cl d e H) (opS c d e.env H.heap (.pan x)) := by
  refine avK_agr fun v hv => ?_
  rw [ifcK_eq]
  simp only [opS, hv]
  cases v <;> try trivial
  exact ⟨⟨e.env, rfl⟩, hH⟩

theorem opK_agr (hcl : AgrC cl c) (hH : H.ok) (op : AOp) : Agr (opK op cl d e H) (opS c d e.env H.heap op) := by
  cases op
  case mv => exact agr_pv (cl := cl) rfl (pvMv _) hH
  case pick => exact agr_pv (cl := cl) rfl (pvPick _ _ _) hH
  case bin => exact agr_pv (cl := cl) rfl (pvBin _ _ _) hH
  case eq => exact agr_pv (cl := cl) rfl (pvEq _ _ _ _) hH
  case un => exact agr_pv (cl := cl) rfl (pvUn _ _) hH
  case cvi => exact agr_pv (cl := cl) rfl (pvCvi _ _) hH
  case cvb => exact agr_pv (cl := cl) rfl (pvG _) hH
  case cvs => exact agr_pv (cl := cl) rfl (pvG _) hH
  case cvl => exact agr_pv (cl := cl) rfl (pvG _) hH
  case mkl => exact agr_pv (cl := cl) rfl (pvMkl _ _ _) hH
  case mkm => exact agrMkm (cl := cl) hH
  case bld => exact agr_pv (cl := cl) rfl (pvBld _ _) hH
  case fa => exact agr_pv (cl := cl) rfl (pvFa _ _ _ _) hH
  case ia => exact agr_pv (cl := cl) rfl (pvIa _ _ _ _ _) hH
  case ix => exact agr_pv (cl := cl) rfl (pvIx _ _ _) hH
  case ld => exact agr_pv (cl := cl) rfl (pvLd _ _ _) hH
  case ldl => exact agr_pv (cl := cl) rfl (pvLdl _ _ _) hH
  case ldi => exact agr_pv (cl := cl) rfl (pvLdi _ _ _) hH
  case ldp => exact agr_pv (cl := cl) rfl (pvLdp _ _ _) hH
  case ldo => exact agr_pv (cl := cl) rfl (pvLdo _ _ _) hH
  case ixl => exact agr_pv (cl := cl) rfl (pvIxl _ _ _) hH
  case fld => exact agr_pv (cl := cl) rfl (pvFld _ _ _ _) hH
  case ixa => exact agr_pv (cl := cl) rfl (pvIxa _ _ _ _ _) hH
  case ixs => exact agr_pv (cl := cl) rfl (pvIxs _ _) hH
  case len => exact agr_pv (cl := cl) rfl (pvLen _) hH
  case lns => exact agr_pv (cl := cl) rfl (pvLns _) hH
  case cap => exact agr_pv (cl := cl) rfl (pvG _) hH
  case sl => exact agr_pv (cl := cl) rfl (pvSl _ _ _ _ _) hH
  case ss => exact agr_pv (cl := cl) rfl (pvSs _ _ _) hH
  case ext => exact agr_pv (cl := cl) rfl (pvExt _ _) hH
  case mkif => exact agr_pv (cl := cl) rfl (pvMkif _ _) hH
  case tas => exact agr_pv (cl := cl) rfl (pvG _) hH
  case mkfn => exact agr_pv (cl := cl) rfl (pvMkfn _ _) hH
  case nilc => exact agr_pv (cl := cl) rfl (pvNilc _) hH
  case mnmx => exact agr_pv (cl := cl) rfl (pvG _) hH
  case alv => exact agrAlv (cl := cl) hH
  case blv => exact agrBlv (cl := cl) hH
  case bim => exact agr_pv (cl := cl) rfl (pvBim _ _) hH
  case sla => exact agr_pv (cl := cl) rfl (pvG _) hH
  case aob => exact agrAob (cl := cl) hH
  case bob => exact agrBob (cl := cl) hH
  case st => exact agrSt (cl := cl) hH
  case sto => exact agrSto (cl := cl) hH
  case app => exact agrApp (cl := cl) hH
  case apz => exact agrApz (cl := cl) hH
  case mks => exact agrMks (cl := cl) hH
  case cpy => trivial
  case clr => exact agrClr (cl := cl) hH
  case thaw => trivial
  case frz => exact agrFrz (cl := cl) hH
  case call => exact agrCall hcl hH
  case callc => exact agrCallc hcl hH
  case callv => exact agrCallv hcl hH
  case pan => exact agrPan (cl := cl) hH
end
end Ey
