/- The small language, run in a way that the kernel runs fast: operations that change nothing. -/
import Derived.Test.YtmcgbmkagbchnaaEyFm3
namespace Ey
open Go (IntKind FloatKind BinOp UnOp)

section
variable {α : Type}

noncomputable def oMv (x : Opd) (e : FE) (_ : FH) (d : α) (k : Sl → α) : α := @Sl.rec (fun _ => α) d d (fun y => k (.v y)) (fun _ => d) (fun s o => k (.lp s o)) (slF x e)
noncomputable def oPick (c a b : Opd) (e : FE) (_ : FH) (d : α) (k : Sl → α) : α := avK c e d fun v => blK v d fun t => @Bool.rec (fun _ => α) (avK b e d fun r => k (.v r)) (avK a e d fun r => k (.v r)) t
noncomputable def oBin (op : BinOp) (x y : Opd) (e : FE) (_ : FH) (d : α) (k : Sl → α) : α := avK x e d fun a => avK y e d fun b => binK op a b d fun r => k (.v r)
noncomputable def oEq (neg : Bool) (q : EqK) (x y : Opd) (e : FE) (_ : FH) (d : α) (k : Sl → α) : α := avK x e d fun a => avK y e d fun b => optK (eqAV q a b) d fun r => boolK (r != neg) fun t => k (.v (.bool t))
noncomputable def oUn (op : UnOp) (x : Opd) (e : FE) (_ : FH) (d : α) (k : Sl → α) : α := avK x e d fun a => optK (unAV op a) d fun r => k (.v r)
noncomputable def oCvi (q : IntKind) (x : Opd) (e : FE) (_ : FH) (d : α) (k : Sl → α) : α := avK x e d fun v => intK v d fun _ n => wrapK q n fun r => k (.v (.int q r))
noncomputable def oMkl (z : AV) (n : Nat) (ps : List (Nat × Opd)) (e : FE) (_ : FH) (d : α) (k : Sl → α) : α := partsF ps e d fun l => mklK l (repF n z) d fun xs => k (.v (.list false xs))
noncomputable def oBld (z : AV) (ps : List ((Nat × Nat) × Opd)) (e : FE) (_ : FH) (d : α) (k : Sl → α) : α := partsF ps e d fun l => fillK l (cellsF z) d fun cs => k (.v (.agg cs))
noncomputable def oFa (off sz : Nat) (ag : Bool) (a : Opd) (e : FE) (_ : FH) (d : α) (k : Sl → α) : α := addrK off sz ag (slF a e) d k
noncomputable def oIa (n sz : Nat) (ag : Bool) (a i : Opd) (e : FE) (_ : FH) (d : α) (k : Sl → α) : α := avK i e d fun v => intK v d fun _ q => idxK q n d fun j => natK (Nat.mul j sz) fun o => addrK o sz ag (slF a e) d k
noncomputable def ixlK (sz : Nat) (xs : List AV) (q : Int) (d : α) (k : Sl → α) : α := nnK q d fun j => optK (nthF xs j) d fun y => ifK (Nat.beq (ncellsF y) sz) d (k (.v (.imm y)))
noncomputable def oIx (sz : Nat) (x i : Opd) (e : FE) (H : FH) (d : α) (k : Sl → α) : α := avK x e d fun v => avK i e d fun u => intK u d fun _ q => slcK v d (fun _ xs => ixlK sz xs q d k) d
  fun id ver lo len => idxK q len d fun j => arrK (lookF id H.bl) d fun _ z _ _ => ifK (Nat.beq z sz) d (natK (Nat.add lo j) fun t => k (.v (.ap id ver t 0)))
noncomputable def oIxl (sz : Nat) (x i : Opd) (e : FE) (_ : FH) (d : α) (k : Sl → α) : α := avK x e d fun v => avK i e d fun u => intK u d fun _ q => slcK v d (fun _ xs => ixlK sz xs q d k) d fun _ _ _ _ => d
noncomputable def oLd (sz : Nat) (ag : Bool) (a : Opd) (e : FE) (H : FH) (d : α) (k : Sl → α) : α := ldK e H sz ag (slF a e) d fun x => k (.v x)
noncomputable def oLdl (sz : Nat) (ag : Bool) (s : Nat) (e : FE) (_ : FH) (d : α) (k : Sl → α) : α := lvK s e d fun cs => partK sz ag cs 0 d fun x => k (.v x)
noncomputable def oLdi (sz : Nat) (ag : Bool) (a : Opd) (e : FE) (_ : FH) (d : α) (k : Sl → α) : α := adrK (slF a e) d (fun _ _ => d) (fun y => ifK (Nat.beq (ncellsF y) sz) d (partK sz ag (cellsF y) 0 d fun x => k (.v x))) (fun _ _ => d) fun _ _ _ _ => d
noncomputable def oLdp (sz : Nat) (ag : Bool) (a : Opd) (e : FE) (_ : FH) (d : α) (k : Sl → α) : α := adrK (slF a e) d (fun s off => lvK s e d fun cs => partK sz ag cs off d fun x => k (.v x)) (fun _ => d) (fun _ _ => d) fun _ _ _ _ => d
noncomputable def oLdo (sz : Nat) (ag : Bool) (a : Opd) (e : FE) (H : FH) (d : α) (k : Sl → α) : α := adrK (slF a e) d (fun _ _ => d) (fun _ => d) (fun id off => ifK (Nat.ble (Nat.succ id) H.next) d (objK (lookF id H.bl) d fun cs => partK sz ag cs off d fun x => k (.v x))) fun _ _ _ _ => d
noncomputable def oFld (off sz : Nat) (ag : Bool) (x : Opd) (e : FE) (_ : FH) (d : α) (k : Sl → α) : α := avK x e d fun v => aggK v d fun cs => partK sz ag cs off d fun r => k (.v r)
noncomputable def oIxa (n sz : Nat) (ag : Bool) (x i : Opd) (e : FE) (_ : FH) (d : α) (k : Sl → α) : α := avK x e d fun v => avK i e d fun u => aggK v d fun cs => intK u d fun _ q => idxK q n d fun j => partK sz ag cs (Nat.mul j sz) d fun r => k (.v r)
noncomputable def oIxs (x i : Opd) (e : FE) (_ : FH) (d : α) (k : Sl → α) : α := avK x e d fun v => avK i e d fun u => strK v d fun s => intK u d fun _ q => nnK q d fun j => optK (nthF s j) d fun b => natK b.toNat fun t => k (.v (.int .u8 (.ofNat t)))
noncomputable def oLen (x : Opd) (e : FE) (_ : FH) (d : α) (k : Sl → α) : α := avK x e d fun v => slcK v d (fun _ xs => natK (lenF xs) fun n => k (.v (.int .i64 (.ofNat n)))) (k (.v (.int .i64 (.ofNat 0)))) fun _ _ _ n => k (.v (.int .i64 (.ofNat n)))
noncomputable def oLns (x : Opd) (e : FE) (_ : FH) (d : α) (k : Sl → α) : α := avK x e d fun v => strK v d fun s => natK (lenF s) fun n => k (.v (.int .i64 (.ofNat n)))
noncomputable def hiK (hi : Option Opd) (len : Nat) (e : FE) (d : α) (k : Nat → α) : α := @Option.rec Opd (fun _ => α) (k len) (fun o => avK o e d fun v => intK v d fun _ q => nnK q d k) hi
noncomputable def boundsK (len : Nat) (lo hi : Option Opd) (e : FE) (d : α) (k : Nat → Nat → α) : α := hiK hi len e d fun h => hiK lo 0 e d fun l => ifK (Nat.ble l h) d (ifK (Nat.ble h len) d (k l h))
noncomputable def cellsAll (sz : Nat) : List AV → Bool := @List.rec AV (fun _ => Bool) true (fun x _ ih => @Bool.rec (fun _ => Bool) false ih (Nat.beq (ncellsF x) sz))
noncomputable def oSl0 (sz : Nat) (x : Opd) (lo hi : Option Opd) (e : FE) (H : FH) (d : α) (k : Sl → α) : α := avK x e d fun v => slcK v d
  (fun n xs => ifK (cellsAll sz xs) d (natK (lenF xs) fun len => boundsK len lo hi e d fun l h => k (.v (.list n (takeF (Nat.sub h l) (dropF l xs))))))
  (boundsK 0 lo hi e d fun _ _ => k (.v .cap0))
  fun id ver a len => arrK (lookF id H.bl) d fun _ z _ _ => ifK (Nat.beq z sz) d (boundsK len lo hi e d fun l h => natK (Nat.add a l) fun a' => natK (Nat.sub h l) fun n' => k (.v (.ms id ver a' n')))
noncomputable def oG (op : AOp) (e : FE) (H : FH) (d : α) (k : Sl → α) : α := optK (opv e.env H.heap op) d k
noncomputable def oSl (sz : Nat) (x : Opd) (lo hi mx : Option Opd) : FE → FH → α → (Sl → α) → α := @Option.rec Opd (fun _ => FE → FH → α → (Sl → α) → α) (oSl0 sz x lo hi) (fun m => oG (.sl sz x lo hi (some m))) mx
noncomputable def oSs (x : Opd) (lo hi : Option Opd) (e : FE) (_ : FH) (d : α) (k : Sl → α) : α := avK x e d fun v => strK v d fun s => natK (lenF s) fun len => boundsK len lo hi e d fun l h => k (.v (.str (takeF (Nat.sub h l) (dropF l s))))
noncomputable def oExt (i : Nat) (x : Opd) (e : FE) (_ : FH) (d : α) (k : Sl → α) : α := avK x e d fun v => tupK v d fun vs => optK (nthF vs i) d fun r => k (.v r)
noncomputable def oMkif (t : Nat) (x : Opd) (e : FE) (_ : FH) (d : α) (k : Sl → α) : α := avK x e d fun v => k (.v (.iface t v))
noncomputable def oMkfn (f : Nat) (cap : List Opd) (e : FE) (_ : FH) (d : α) (k : Sl → α) : α := allF cap e d fun vs => k (.v (.fn f vs))
noncomputable def nilcV (v : AV) (d : α) (k : Sl → α) : α := @AV.casesOn (fun _ => α) v d (fun _ => d) (fun _ _ => d) (fun _ => d) (fun _ _ => d) (fun _ _ => d) d (fun _ _ _ _ => d) (fun _ => k (.v v)) d (fun _ _ => k (.v v)) (fun _ _ _ _ => k (.v v)) (fun _ _ => k (.v v)) d (fun _ _ => d) d (fun _ => d) (fun _ => d) (fun _ => d) d
noncomputable def oNilc (x : Opd) (e : FE) (_ : FH) (d : α) (k : Sl → α) : α := @Sl.rec (fun _ => α) d d (fun v => nilcV v d k) (fun _ => d) (fun s o => k (.lp s o)) (slF x e)
noncomputable def oBim (sz : Nat) (x : Opd) (e : FE) (_ : FH) (d : α) (k : Sl → α) : α := avK x e d fun v => ifK (Nat.beq (ncellsF v) sz) d (k (.v (.imm v)))

/-- what such an operation hands on -/
def PvOK (op : AOp) (o : ∀ {α : Type}, FE → FH → α → (Sl → α) → α) : Prop := ∀ {α : Type} (e : FE) (H : FH) (_ : H.ok) (d : α) (k : Sl → α), o e H d k = match opv e.env H.heap op with | some x => k x | none => d

theorem pvG (op : AOp) : PvOK op (oG op) := fun e H _ d k => by
  simp only [oG, optK_eq]
  cases opv e.env H.heap op <;> rfl
theorem pvMv (x : Opd) : PvOK (.mv x) (oMv x) := fun e H _ d k => by
  simp only [oMv, opv, slF_eq]
  cases e.env.sl x <;> rfl
theorem pvPick (c a b : Opd) : PvOK (.pick c a b) (oPick c a b) := fun e H _ d k => by
  simp only [oPick, opv, avK_eq, blK_eq]
  cases e.env.av c with
  | none => rfl
  | some v =>
    cases v <;> try rfl
    rename_i t
    cases t
    · simp only [Bool.false_eq_true, if_false]; cases e.env.av b <;> rfl
    · simp only [if_true]; cases e.env.av a <;> rfl
theorem pvBin (op : BinOp) (x y : Opd) : PvOK (.bin op x y) (oBin op x y) := fun e H _ d k => by
  simp only [oBin, opv, avK_eq, binK_eq]
  cases e.env.av x with
  | none => rfl
  | some a => cases e.env.av y with
    | none => rfl
    | some b => simp only; cases binAV op a b <;> rfl
theorem pvEq (neg : Bool) (q : EqK) (x y : Opd) : PvOK (.eq neg q x y) (oEq neg q x y) := fun e H _ d k => by
  simp only [oEq, opv, avK_eq, optK_eq, boolK_eq]
  cases e.env.av x with
  | none => rfl
  | some a => cases e.env.av y with
    | none => rfl
    | some b => simp only; cases eqAV q a b <;> rfl
theorem pvUn (op : UnOp) (x : Opd) : PvOK (.un op x) (oUn op x) := fun e H _ d k => by
  simp only [oUn, opv, avK_eq, optK_eq]
  cases e.env.av x with
  | none => rfl
  | some a => simp only; cases unAV op a <;> rfl
theorem pvCvi (q : IntKind) (x : Opd) : PvOK (.cvi q x) (oCvi q x) := fun e H _ d k => by
  simp only [oCvi, opv, avK_eq, intK_eq, wrapK_eq]
  cases e.env.av x with
  | none => rfl
  | some a => cases a <;> rfl
theorem pvMkl (z : AV) (n : Nat) (ps : List (Nat × Opd)) : PvOK (.mkl z n ps) (oMkl z n ps) := fun e H _ d k => by
  simp only [oMkl, opv, partsF_eq, mklK_eq, repF_eq]
  cases allParts e.env ps with
  | none => rfl
  | some l => simp only; cases mklAV (List.replicate n z) l <;> rfl
theorem pvBld (z : AV) (ps : List ((Nat × Nat) × Opd)) : PvOK (.bld z ps) (oBld z ps) := fun e H _ d k => by
  simp only [oBld, opv, partsF_eq, fillK_eq, cellsF_eq]
  cases allParts e.env ps with
  | none => rfl
  | some l => simp only; cases fillAV z.cells l <;> rfl
theorem pvFa (off sz : Nat) (ag : Bool) (a : Opd) : PvOK (.fa off sz ag a) (oFa off sz ag a) := fun e H _ d k => by
  simp only [oFa, opv, addrK_eq, slF_eq]
  cases addrS off sz ag (e.env.sl a) <;> rfl
theorem pvIa (n sz : Nat) (ag : Bool) (a i : Opd) : PvOK (.ia n sz ag a i) (oIa n sz ag a i) := fun e H _ d k => by
  simp only [oIa, opv, avK_eq, intK_eq, idxK_eq, natK_eq, addrK_eq, slF_eq, Nat.mul_eq]
  cases e.env.av i with
  | none => rfl
  | some v =>
    cases v <;> try rfl
    simp only; split <;> rfl
theorem ixlK_eq (sz : Nat) (xs : List AV) (q : Int) (d : α) (k : Sl → α) : ixlK sz xs q d k = match (if 0 ≤ q then match xs[q.toNat]? with
        | some y => if y.cells.length = sz then some (.v (.imm y)) else none
        | none => none else none : Option Sl) with | some x => k x | none => d := by
  simp only [ixlK, nnK_eq, optK_eq, nthF_eq, ifK_beq, ncellsF_eq]
  by_cases h : 0 ≤ q
  · rw [if_pos h, if_pos h]
    cases xs[q.toNat]? with
    | none => rfl
    | some y => simp only; split <;> rfl
  · rw [if_neg h, if_neg h]
theorem pvIx (sz : Nat) (x i : Opd) : PvOK (.ix sz x i) (oIx sz x i) := fun e H hH d k => by
  simp only [oIx, opv, avK_eq, intK_eq, slcK_eq, ixlK_eq, idxK_eq, arrK_eq H hH, ifK_beq, natK_eq, Nat.add_eq]
  cases e.env.av x with
  | none => rfl
  | some v => cases e.env.av i with
    | none => cases v <;> rfl
    | some u =>
      cases u <;> (try (cases v <;> rfl; done))
      cases v <;> try rfl
      simp only
      split
      · cases H.heap.get _ with
        | none => rfl
        | some b =>
          cases b <;> try rfl
          simp only
          split <;> rfl
      · rfl
theorem pvIxl (sz : Nat) (x i : Opd) : PvOK (.ixl sz x i) (oIxl sz x i) := fun e H _ d k => by
  simp only [oIxl, opv, avK_eq, intK_eq, slcK_eq, ixlK_eq]
  cases e.env.av x with
  | none => rfl
  | some v => cases e.env.av i with
    | none => cases v <;> rfl
    | some u =>
      cases u <;> cases v <;> rfl
theorem pvLd (sz : Nat) (ag : Bool) (a : Opd) : PvOK (.ld sz ag a) (oLd sz ag a) := fun e H hH d k => by
  simp only [oLd, opv, ldK_eq hH, slF_eq]
  cases ldS e.env H.heap sz ag (e.env.sl a) <;> rfl
theorem pvLdl (sz : Nat) (ag : Bool) (s : Nat) : PvOK (.ldl sz ag s) (oLdl sz ag s) := fun e H _ d k => by
  simp only [oLdl, opv, lvK_eq, partK_eq]
  cases e.env.get s <;> try rfl
  simp only
  cases part sz ag _ 0 <;> rfl
theorem pvLdi (sz : Nat) (ag : Bool) (a : Opd) : PvOK (.ldi sz ag a) (oLdi sz ag a) := fun e H _ d k => by
  simp only [oLdi, opv, adrK_eq, slF_eq, ifK_beq, ncellsF_eq, cellsF_eq, partK_eq]
  cases e.env.sl a with
  | v y =>
    cases y <;> try rfl
    simp only
    split
    · cases part sz ag _ 0 <;> rfl
    · rfl
  | _ => rfl
theorem pvLdp (sz : Nat) (ag : Bool) (a : Opd) : PvOK (.ldp sz ag a) (oLdp sz ag a) := fun e H _ d k => by
  simp only [oLdp, opv, adrK_eq, slF_eq, lvK_eq, partK_eq]
  cases e.env.sl a with
  | lp s o =>
    simp only [ldS]
    cases e.env.get s <;> try rfl
    simp only
    cases part sz ag _ o <;> rfl
  | v y => cases y <;> rfl
  | _ => rfl
theorem pvLdo (sz : Nat) (ag : Bool) (a : Opd) : PvOK (.ldo sz ag a) (oLdo sz ag a) := fun e H _ d k => by
  simp only [oLdo, opv, adrK_eq, slF_eq, ifK_ble, objK_eq, partK_eq]
  cases e.env.sl a with
  | lp s o => rfl
  | v y =>
    cases y <;> try rfl
    rename_i i o
    simp only [ldS]
    show (if i + 1 ≤ H.next then _ else _) = match (if i < H.next then _ else _) with | some x => k x | none => d
    by_cases h : i < H.next
    · rw [if_pos h, if_pos (by omega)]
      cases H.heap.get i with
      | none => rfl
      | some b =>
        cases b <;> try rfl
        simp only
        cases part sz ag _ o <;> rfl
    · rw [if_neg h, if_neg (by omega)]
  | _ => rfl
theorem pvFld (off sz : Nat) (ag : Bool) (x : Opd) : PvOK (.fld off sz ag x) (oFld off sz ag x) := fun e H _ d k => by
  simp only [oFld, opv, avK_eq, aggK_eq, partK_eq]
  cases e.env.av x with
  | none => rfl
  | some v =>
    cases v <;> try rfl
    simp only
    cases part sz ag _ off <;> rfl
theorem pvIxa (n sz : Nat) (ag : Bool) (x i : Opd) : PvOK (.ixa n sz ag x i) (oIxa n sz ag x i) := fun e H _ d k => by
  simp only [oIxa, opv, avK_eq, aggK_eq, intK_eq, idxK_eq, partK_eq, Nat.mul_eq]
  cases e.env.av x with
  | none => rfl
  | some v => cases e.env.av i with
    | none => cases v <;> rfl
    | some u =>
      cases v <;> try rfl
      cases u <;> try rfl
      simp only
      split
      · cases part sz ag _ _ <;> rfl
      · rfl
theorem pvIxs (x i : Opd) : PvOK (.ixs x i) (oIxs x i) := fun e H _ d k => by
  simp only [oIxs, opv, avK_eq, strK_eq, intK_eq, nnK_eq, optK_eq, nthF_eq, natK_eq]
  cases e.env.av x with
  | none => rfl
  | some v => cases e.env.av i with
    | none => cases v <;> rfl
    | some u =>
      cases v <;> try rfl
      cases u <;> try rfl
      simp only
      split
      · rename_i s _ q _
        cases s[q.toNat]? <;> rfl
      · rfl
theorem pvLen (x : Opd) : PvOK (.len x) (oLen x) := fun e H _ d k => by
  simp only [oLen, opv, avK_eq, slcK_eq, natK_eq, lenF_eq]
  cases e.env.av x with
  | none => rfl
  | some v => cases v <;> rfl
theorem pvLns (x : Opd) : PvOK (.lns x) (oLns x) := fun e H _ d k => by
  simp only [oLns, opv, avK_eq, strK_eq, natK_eq, lenF_eq]
  cases e.env.av x with
  | none => rfl
  | some v => cases v <;> rfl

theorem hiK_eq (hi : Option Opd) (len : Nat) (e : FE) (d : α) (k : Nat → α) : hiK hi len e d k = match (match optAV e.env hi with | none => none | some none => some (len : Int) | some (some v) => getI v : Option Int) with | some q => if 0 ≤ q then k q.toNat else d | none => d := by
  cases hi with
  | none => simp [hiK, optAV]
  | some o =>
    show avK o e d (fun v => intK v d fun _ q => nnK q d k) = _
    simp only [avK_eq, intK_eq, nnK_eq, optAV]
    cases e.env.av o with
    | none => rfl
    | some v => cases v <;> rfl

theorem boundsK_eq (len : Nat) (lo hi : Option Opd) (e : FE) (d : α) (k : Nat → Nat → α) : boundsK len lo hi e d k = match optAV e.env lo, optAV e.env hi with
    | some l, some h => (match slBounds len l h with | some (a, b) => k a b | none => d)
    | _, _ => d := by
  simp only [boundsK, hiK_eq, ifK_ble]
  cases hh : optAV e.env hi with
  | none => cases optAV e.env lo <;> rfl
  | some h =>
    cases hl : optAV e.env lo with
    | none => simp only; split <;> first | rfl | (split <;> rfl)
    | some l =>
      simp only [slBounds]
      have key : ∀ (p q : Option Int), (match p with | some q_1 => if 0 ≤ q_1 then (match q with | some q_2 => if 0 ≤ q_2 then (if q_2.toNat ≤ q_1.toNat then (if q_1.toNat ≤ len then k q_2.toNat q_1.toNat else d) else d) else d | none => d) else d | none => d) =
          (match (match p with | none => none | some h => match q with | none => none | some l => if 0 ≤ l ∧ l ≤ h ∧ h ≤ len then some (l.toNat, h.toNat) else none : Option (Nat × Nat)) with | some (a, b) => k a b | none => d) := by
        intro p q
        cases p with
        | none => rfl
        | some p => cases q with
          | none => simp
          | some q =>
            simp only
            by_cases h1 : 0 ≤ p <;> by_cases h2 : 0 ≤ q
            · rw [if_pos h1, if_pos h2]
              by_cases h3 : q ≤ p
              · rw [if_pos (by omega)]
                by_cases h4 : p ≤ len
                · rw [if_pos (by omega), if_pos ⟨h2, h3, h4⟩]
                · rw [if_neg (by omega), if_neg (fun h => h4 h.2.2)]
              · rw [if_neg (by omega), if_neg (fun h => h3 h.2.1)]
            · rw [if_pos h1, if_neg h2, if_neg (fun h => h2 h.1)]
            · rw [if_neg h1, if_neg (fun h => h1 (by omega))]
            · rw [if_neg h1, if_neg (fun h => h2 h.1)]
      have := key (match h with | none => some (len : Int) | some v => getI v) (match l with | none => some (0 : Int) | some v => getI v)
      cases h <;> cases l <;> exact this

theorem cellsAll_eq (sz : Nat) (xs : List AV) : cellsAll sz xs = xs.all (fun x => x.cells.length == sz) := by
  induction xs with
  | nil => rfl
  | cons x xs ih =>
    show @Bool.rec (fun _ => Bool) false (cellsAll sz xs) (Nat.beq (ncellsF x) sz) = _
    rw [ih, ncellsF_eq, List.all_cons]
    cases h : Nat.beq x.cells.length sz with
    | true => simp [Nat.eq_of_beq_eq_true h]
    | false => simp [Nat.ne_of_beq_eq_false h]
theorem ifK_bool (b : Bool) (d x : α) : ifK b d x = if b = true then x else d := by cases b <;> rfl
theorem ifK_all (sz : Nat) (xs : List AV) (d x : α) : ifK (cellsAll sz xs) d x = if xs.all (fun x => x.cells.length == sz) = true then x else d := by rw [ifK_bool, cellsAll_eq]

theorem pvSl0 (sz : Nat) (x : Opd) (lo hi : Option Opd) : PvOK (.sl sz x lo hi none) (oSl0 sz x lo hi) := fun e H hH d k => by
  simp only [oSl0, opv, avK_eq, slcK_eq, ifK_all, natK_eq, lenF_eq, boundsK_eq, takeF_eq, dropF_eq, arrK_eq H hH, ifK_beq, Nat.add_eq, Nat.sub_eq]
  have hn : optAV e.env none = some none := rfl
  rw [hn]
  cases e.env.av x with
  | none => rfl
  | some v =>
    cases hl : optAV e.env lo with
    | none =>
      cases v <;> try rfl
      · simp only; split <;> rfl
      · simp only
        cases H.heap.get _ with
        | none => rfl
        | some b =>
          cases b <;> try rfl
          simp only
          split <;> rfl
    | some l =>
      cases hh : optAV e.env hi with
      | none =>
        cases v <;> try rfl
        · simp only; split <;> rfl
        · simp only
          cases H.heap.get _ with
          | none => rfl
          | some b =>
            cases b <;> try rfl
            simp only
            split <;> rfl
      | some h =>
        cases v <;> simp only [slAV] <;> try rfl
        case list n xs =>
          split
          · cases slBounds xs.length l h <;> rfl
          · rfl
        case cap0 => cases slBounds 0 l h <;> rfl
        case ms id ver a len =>
          cases H.heap.get id with
          | none => rfl
          | some b =>
            cases b <;> try rfl
            rename_i n z xs
            by_cases hz : z = sz
            · subst hz
              simp only [if_true]
              cases slBounds len l h <;> rfl
            · simp only [if_neg hz]
              rfl
theorem pvSl (sz : Nat) (x : Opd) (lo hi mx : Option Opd) : PvOK (.sl sz x lo hi mx) (oSl sz x lo hi mx) := fun {α} e H hH d k => by
  cases mx with
  | none => exact pvSl0 sz x lo hi e H hH d k
  | some m => exact pvG _ e H hH d k
theorem pvSs (x : Opd) (lo hi : Option Opd) : PvOK (.ss x lo hi) (oSs x lo hi) := fun e H _ d k => by
  simp only [oSs, opv, avK_eq, strK_eq, natK_eq, lenF_eq, boundsK_eq, takeF_eq, dropF_eq, Nat.sub_eq]
  cases e.env.av x with
  | none => rfl
  | some v =>
    cases hl : optAV e.env lo with
    | none => cases v <;> rfl
    | some l => cases hh : optAV e.env hi with
      | none => cases v <;> rfl
      | some h =>
        cases v <;> try rfl
        simp only
        cases slBounds _ l h <;> rfl
theorem pvExt (i : Nat) (x : Opd) : PvOK (.ext i x) (oExt i x) := fun e H _ d k => by
  simp only [oExt, opv, avK_eq, tupK_eq, optK_eq, nthF_eq]
  cases e.env.av x with
  | none => rfl
  | some v =>
    cases v <;> try rfl
    rename_i vs
    simp only
    cases vs[i]? <;> rfl
theorem pvMkif (t : Nat) (x : Opd) : PvOK (.mkif t x) (oMkif t x) := fun e H _ d k => by
  simp only [oMkif, opv, avK_eq]
  cases e.env.av x <;> rfl
theorem pvMkfn (f : Nat) (cap : List Opd) : PvOK (.mkfn f cap) (oMkfn f cap) := fun e H _ d k => by
  simp only [oMkfn, opv, allF_eq]
  cases allAV e.env cap <;> rfl
theorem pvNilc (x : Opd) : PvOK (.nilc x) (oNilc x) := fun e H _ d k => by
  simp only [oNilc, opv, slF_eq, nilcV]
  cases e.env.sl x with
  | v y => cases y <;> rfl
  | _ => rfl
theorem pvBim (sz : Nat) (x : Opd) : PvOK (.bim sz x) (oBim sz x) := fun e H _ d k => by
  simp only [oBim, opv, avK_eq, ifK_beq, ncellsF_eq]
  cases e.env.av x with
  | none => rfl
  | some v => simp only; split <;> rfl
end
end Ey
