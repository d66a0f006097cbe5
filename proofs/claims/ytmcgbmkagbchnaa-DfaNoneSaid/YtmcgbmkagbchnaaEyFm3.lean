/- The small language, run in a way that the kernel runs fast: memory, operations that change nothing. -/
import Derived.Test.YtmcgbmkagbchnaaEyFm2
namespace Ey
open Go (IntKind FloatKind BinOp UnOp)

inductive FBlk where
  | obj (cs : List AV)
  | arr (nil : Bool) (sz len : Nat) (xs : List AV)
  | map (es : List (AV × AV))

def FBlk.blk : FBlk → Blk
  | .obj cs => .obj cs
  | .arr n sz _ xs => .arr n sz xs
  | .map es => .map es

inductive FB where
  | nil
  | cons (id : Nat) (b : Option FBlk) (r : FB)

noncomputable def lookF (i : Nat) : FB → Option FBlk := @FB.rec (fun _ => Option FBlk) none (fun k b _ ih => @Bool.rec (fun _ => Option FBlk) ih b (Nat.beq i k))
noncomputable def putF (i : Nat) (b : Option FBlk) : FB → FB := @FB.rec (fun _ => FB) (.cons i b .nil) (fun k c r ih => @Bool.rec (fun _ => FB) (.cons k c ih) (.cons k b r) (Nat.beq i k))

theorem look_put (i j : Nat) (b : Option FBlk) (t : FB) : lookF j (putF i b t) = if j = i then b else lookF j t := by
  induction t with
  | nil =>
    show @Bool.rec (fun _ => Option FBlk) none b (Nat.beq j i) = _
    cases h : Nat.beq j i with
    | true => rw [if_pos (Nat.eq_of_beq_eq_true h)]
    | false => rw [if_neg (Nat.ne_of_beq_eq_false h)]; rfl
  | cons k c r ih =>
    show lookF j (@Bool.rec (fun _ => FB) (.cons k c (putF i b r)) (.cons k b r) (Nat.beq i k)) = if j = i then b else @Bool.rec (fun _ => Option FBlk) (lookF j r) c (Nat.beq j k)
    cases h : Nat.beq i k with
    | true =>
      obtain rfl := Nat.eq_of_beq_eq_true h
      show @Bool.rec (fun _ => Option FBlk) (lookF j r) b (Nat.beq j i) = _
      cases h2 : Nat.beq j i with
      | true => rw [if_pos (Nat.eq_of_beq_eq_true h2)]
      | false => rw [if_neg (Nat.ne_of_beq_eq_false h2)]
    | false =>
      show @Bool.rec (fun _ => Option FBlk) (lookF j (putF i b r)) c (Nat.beq j k) = _
      rw [ih]
      cases h2 : Nat.beq j k with
      | true =>
        have e := Nat.eq_of_beq_eq_true h2
        have hne := Nat.ne_of_beq_eq_false h
        have hji : ¬ j = i := fun e2 => hne (e2.symm.trans e)
        simp [hji]
      | false => rfl

structure FH where
  next : Nat
  ro : Nat
  bl : FB

noncomputable def FH.heap (H : FH) : Heap := ⟨H.next, H.ro, fun i => (lookF i H.bl).map FBlk.blk⟩
/-- lengths that are kept beside arrays are theirs -/
def FH.ok (H : FH) : Prop := ∀ i n z l xs, lookF i H.bl = some (.arr n z l xs) → l = xs.length

noncomputable def FH.put (H : FH) (i : Nat) (b : Option FBlk) : FH := ⟨H.next, H.ro, putF i b H.bl⟩
noncomputable def FH.new (H : FH) (b : FBlk) : FH := ⟨Nat.succ H.next, H.ro, .cons H.next (some b) H.bl⟩

theorem heap_put (H : FH) (i : Nat) (b : Option FBlk) : (H.put i b).heap = H.heap.put i (b.map FBlk.blk) := by
  simp only [FH.heap, FH.put, Heap.put, look_put]
  congr 1
  funext j
  split <;> rfl

theorem look_cons (i j : Nat) (b : Option FBlk) (t : FB) : lookF j (.cons i b t) = if j = i then b else lookF j t := by
  show @Bool.rec (fun _ => Option FBlk) (lookF j t) b (Nat.beq j i) = _
  cases h : Nat.beq j i with
  | true => rw [if_pos (Nat.eq_of_beq_eq_true h)]
  | false => rw [if_neg (Nat.ne_of_beq_eq_false h)]

theorem heap_new (H : FH) (b : FBlk) : (H.new b).heap = H.heap.new b.blk := by
  simp only [FH.heap, FH.new, Heap.new, look_cons]
  congr 1
  funext j
  by_cases h : j = H.next
  · simp [h]
  · simp [h]

theorem ok_put {H : FH} (h : H.ok) (i : Nat) {b : Option FBlk} (hb : ∀ n z l xs, b = some (.arr n z l xs) → l = xs.length) : (H.put i b).ok := by
  intro j n z l xs hj
  simp only [FH.put, look_put] at hj
  split at hj
  · exact hb n z l xs hj
  · exact h j n z l xs hj

theorem ok_new {H : FH} (h : H.ok) {b : FBlk} (hb : ∀ n z l xs, b = .arr n z l xs → l = xs.length) : (H.new b).ok := by
  intro j n z l xs hj
  simp only [FH.new, look_cons] at hj
  split at hj
  · exact hb n z l xs (Option.some.inj hj)
  · exact h j n z l xs hj

theorem heap_get (H : FH) (i : Nat) : H.heap.get i = (lookF i H.bl).map FBlk.blk := rfl

section
variable {α : Type}

noncomputable def optK {β : Type} (o : Option β) (d : α) (k : β → α) : α := @Option.rec β (fun _ => α) d k o
theorem optK_eq {β : Type} (o : Option β) (d : α) (k : β → α) : optK o d k = match o with | some x => k x | none => d := by cases o <;> rfl

noncomputable def objK (b : Option FBlk) (d : α) (k : List AV → α) : α := @Option.rec FBlk (fun _ => α) d (fun b => @FBlk.casesOn (fun _ => α) b k (fun _ _ _ _ => d) (fun _ => d)) b
noncomputable def arrK (b : Option FBlk) (d : α) (k : Bool → Nat → Nat → List AV → α) : α := @Option.rec FBlk (fun _ => α) d (fun b => @FBlk.casesOn (fun _ => α) b (fun _ => d) k (fun _ => d)) b

theorem objK_eq (H : FH) (i : Nat) (d : α) (k : List AV → α) : objK (lookF i H.bl) d k = match H.heap.get i with | some (.obj cs) => k cs | _ => d := by
  rw [heap_get]
  cases lookF i H.bl with
  | none => rfl
  | some b => cases b <;> rfl
theorem arrK_eq (H : FH) (h : H.ok) (i : Nat) (d : α) (k : Bool → Nat → Nat → List AV → α) : arrK (lookF i H.bl) d k = match H.heap.get i with | some (.arr n z xs) => k n z xs.length xs | _ => d := by
  rw [heap_get]
  cases hb : lookF i H.bl with
  | none => rfl
  | some b => cases b with
    | arr n z l xs => have := h i n z l xs hb; subst this; rfl
    | _ => rfl

/-- slices: ones that are never written, an empty one, ones that lie in an array -/
noncomputable def slcK (v : AV) (d : α) (fl : Bool → List AV → α) (fc : α) (fm : Nat → Nat → Nat → Nat → α) : α := @AV.casesOn (fun _ => α) v d (fun _ => d) (fun _ _ => d) (fun _ => d) (fun _ _ => d) fl fc fm (fun _ => d) d (fun _ _ => d) (fun _ _ _ _ => d) (fun _ _ => d) d (fun _ _ => d) d (fun _ => d) (fun _ => d) (fun _ => d) d
theorem slcK_eq (v : AV) (d : α) (fl : Bool → List AV → α) (fc : α) (fm : Nat → Nat → Nat → Nat → α) : slcK v d fl fc fm = match v with | .list n xs => fl n xs | .cap0 => fc | .ms i v l n => fm i v l n | _ => d := by cases v <;> rfl
noncomputable def aggK (v : AV) (d : α) (f : List AV → α) : α := @AV.casesOn (fun _ => α) v d (fun _ => d) (fun _ _ => d) (fun _ => d) (fun _ _ => d) (fun _ _ => d) d (fun _ _ _ _ => d) (fun _ => d) d (fun _ _ => d) (fun _ _ _ _ => d) (fun _ _ => d) d (fun _ _ => d) d f (fun _ => d) (fun _ => d) d
theorem aggK_eq (v : AV) (d : α) (f : List AV → α) : aggK v d f = match v with | .agg cs => f cs | _ => d := by cases v <;> rfl
noncomputable def tupK (v : AV) (d : α) (f : List AV → α) : α := @AV.casesOn (fun _ => α) v d (fun _ => d) (fun _ _ => d) (fun _ => d) (fun _ _ => d) (fun _ _ => d) d (fun _ _ _ _ => d) (fun _ => d) d (fun _ _ => d) (fun _ _ _ _ => d) (fun _ _ => d) d (fun _ _ => d) d (fun _ => d) f (fun _ => d) d
theorem tupK_eq (v : AV) (d : α) (f : List AV → α) : tupK v d f = match v with | .tup cs => f cs | _ => d := by cases v <;> rfl
noncomputable def strK (v : AV) (d : α) (f : List UInt8 → α) : α := @AV.casesOn (fun _ => α) v d (fun _ => d) (fun _ _ => d) f (fun _ _ => d) (fun _ _ => d) d (fun _ _ _ _ => d) (fun _ => d) d (fun _ _ => d) (fun _ _ _ _ => d) (fun _ _ => d) d (fun _ _ => d) d (fun _ => d) (fun _ => d) (fun _ => d) d
theorem strK_eq (v : AV) (d : α) (f : List UInt8 → α) : strK v d f = match v with | .str s => f s | _ => d := by cases v <;> rfl
noncomputable def fnK (v : AV) (d : α) (f : Nat → List AV → α) : α := @AV.casesOn (fun _ => α) v d (fun _ => d) (fun _ _ => d) (fun _ => d) (fun _ _ => d) (fun _ _ => d) d (fun _ _ _ _ => d) (fun _ => d) d (fun _ _ => d) (fun _ _ _ _ => d) f d (fun _ _ => d) d (fun _ => d) (fun _ => d) (fun _ => d) d
theorem fnK_eq (v : AV) (d : α) (f : Nat → List AV → α) : fnK v d f = match v with | .fn g c => f g c | _ => d := by cases v <;> rfl

/-- addresses -/
noncomputable def adrV (v : AV) (d : α) (fi : AV → α) (fp : Nat → Nat → α) (fa : Nat → Nat → Nat → Nat → α) : α := @AV.casesOn (fun _ => α) v d (fun _ => d) (fun _ _ => d) (fun _ => d) (fun _ _ => d) (fun _ _ => d) d (fun _ _ _ _ => d) fi d fp fa (fun _ _ => d) d (fun _ _ => d) d (fun _ => d) (fun _ => d) (fun _ => d) d
noncomputable def adrK (s : Sl) (d : α) (fl : Nat → Nat → α) (fi : AV → α) (fp : Nat → Nat → α) (fa : Nat → Nat → Nat → Nat → α) : α := @Sl.rec (fun _ => α) d d (fun v => adrV v d fi fp fa) (fun _ => d) fl s
theorem adrK_eq (s : Sl) (d : α) (fl : Nat → Nat → α) (fi : AV → α) (fp : Nat → Nat → α) (fa : Nat → Nat → Nat → Nat → α) :
    adrK s d fl fi fp fa = match s with | .lp s o => fl s o | .v (.imm y) => fi y | .v (.ptr i o) => fp i o | .v (.ap i v j o) => fa i v j o | _ => d := by
  cases s with
  | v x => cases x <;> rfl
  | _ => rfl

/-- a local variable's cells -/
noncomputable def lvK (s : Nat) (e : FE) (d : α) (k : List AV → α) : α := @Sl.rec (fun _ => α) d d (fun _ => d) k (fun _ _ => d) (getF s e)
theorem lvK_eq (s : Nat) (e : FE) (d : α) (k : List AV → α) : lvK s e d k = match e.env.get s with | .lv cs => k cs | _ => d := by
  simp only [lvK, getF_eq]; cases e.env.get s <;> rfl

noncomputable def ifK (c : Bool) (d x : α) : α := @Bool.rec (fun _ => α) d x c
theorem ifK_beq (a b : Nat) (d x : α) : ifK (Nat.beq a b) d x = if a = b then x else d := by
  cases h : Nat.beq a b with
  | true => rw [if_pos (Nat.eq_of_beq_eq_true h)]; rfl
  | false => rw [if_neg (Nat.ne_of_beq_eq_false h)]; rfl
theorem ifK_ble (a b : Nat) (d x : α) : ifK (Nat.ble a b) d x = if a ≤ b then x else d := by
  cases h : Nat.ble a b with
  | true => rw [if_pos (Nat.le_of_ble_eq_true h)]; rfl
  | false => rw [if_neg (fun h2 => by rw [Nat.ble_eq_true_of_le h2] at h; cases h)]; rfl
theorem ifK_dec (p : Prop) [Decidable p] (d x : α) : ifK (decide p) d x = if p then x else d := by
  by_cases h : p <;> simp [h, ifK]

noncomputable def ldK (e : FE) (H : FH) (sz : Nat) (ag : Bool) (s : Sl) (d : α) (k : AV → α) : α := adrK s d
  (fun s off => lvK s e d fun cs => partK sz ag cs off d k)
  (fun y => ifK (Nat.beq (ncellsF y) sz) d (partK sz ag (cellsF y) 0 d k))
  (fun id off => objK (lookF id H.bl) d fun cs => partK sz ag cs off d k)
  (fun id ver i off => arrK (lookF id H.bl) d fun _ _ l xs => ifK (Nat.beq l ver) d (optK (nthF xs i) d fun x => partK sz ag (cellsF x) off d k))
theorem ldK_eq {H : FH} (hH : H.ok) (e : FE) (sz : Nat) (ag : Bool) (s : Sl) (d : α) (k : AV → α) : ldK e H sz ag s d k = match ldS e.env H.heap sz ag s with | some x => k x | none => d := by
  simp only [ldK, adrK_eq, lvK_eq, partK_eq, ifK_beq, ncellsF_eq, cellsF_eq, objK_eq, arrK_eq H hH, optK_eq, nthF_eq]
  cases s with
  | no => rfl
  | un => rfl
  | lv c => rfl
  | lp s o => simp only [ldS]; cases e.env.get s <;> rfl
  | v x => cases x <;> simp only [ldS]
           case imm y => split <;> rfl
           case ptr i o =>
             cases H.heap.get i with
             | none => rfl
             | some b => cases b <;> rfl
           case ap i v j o =>
             cases H.heap.get i with
             | none => rfl
             | some b =>
               cases b <;> try rfl
               rename_i n z xs
               simp only
               by_cases hl : xs.length = v
               · rw [if_pos hl, if_pos hl]
                 cases xs[j]? <;> rfl
               · rw [if_neg hl, if_neg hl]

/-- addresses moved on -/
noncomputable def addrK (off sz : Nat) (ag : Bool) (s : Sl) (d : α) (k : Sl → α) : α := adrK s d
  (fun s o => natK (Nat.add o off) fun q => k (.lp s q)) (fun y => partK sz ag (cellsF y) off d fun z => k (.v (.imm z))) (fun i o => natK (Nat.add o off) fun q => k (.v (.ptr i q))) (fun i v j o => natK (Nat.add o off) fun q => k (.v (.ap i v j q)))
theorem addrK_eq (off sz : Nat) (ag : Bool) (s : Sl) (d : α) (k : Sl → α) : addrK off sz ag s d k = match addrS off sz ag s with | some x => k x | none => d := by
  simp only [addrK, adrK_eq, natK_eq, partK_eq, cellsF_eq]
  cases s with
  | v x => cases x <;> simp only [addrS] <;> first | rfl | skip
           cases part sz ag _ off <;> rfl
  | _ => rfl

/-- a number from 0 on, below another one -/
noncomputable def idxK (k : Int) (n : Nat) (d : α) (f : Nat → α) : α := @Int.rec (fun _ => α) (fun i => ifK (Nat.ble (Nat.succ i) n) d (f i)) (fun _ => d) k
theorem idxK_eq (k : Int) (n : Nat) (d : α) (f : Nat → α) : idxK k n d f = if 0 ≤ k ∧ k < n then f k.toNat else d := by
  cases k with
  | ofNat i =>
    simp only [idxK, ifK_ble]
    by_cases h : i + 1 ≤ n
    · rw [if_pos h, if_pos (by simp; omega)]; rfl
    · rw [if_neg h, if_neg (by simp; omega)]
  | negSucc i => rw [if_neg (by simp [Int.negSucc_eq] <;> omega)]; rfl
noncomputable def nnK (k : Int) (d : α) (f : Nat → α) : α := @Int.rec (fun _ => α) f (fun _ => d) k
theorem nnK_eq (k : Int) (d : α) (f : Nat → α) : nnK k d f = if 0 ≤ k then f k.toNat else d := by
  cases k with
  | ofNat i => rw [if_pos (by simp)]; rfl
  | negSucc i => rw [if_neg (by simp [Int.negSucc_eq] <;> omega)]; rfl

noncomputable def allF : List Opd → FE → α → (List AV → α) → α := @List.rec Opd (fun _ => FE → α → (List AV → α) → α) (fun _ _ k => k []) (fun o _ ih e d k => avK o e d fun v => ih e d fun r => k (v :: r))
theorem allF_eq (l : List Opd) (e : FE) (d : α) (k : List AV → α) : allF l e d k = match allAV e.env l with | some vs => k vs | none => d := by
  induction l generalizing k with
  | nil => rfl
  | cons o l ih =>
    show avK o e d (fun v => allF l e d fun r => k (v :: r)) = _
    simp only [avK_eq, ih, allAV]
    cases e.env.av o with
    | none => rfl
    | some v => cases allAV e.env l <;> rfl
noncomputable def partsF {κ : Type} : List (κ × Opd) → FE → α → (List (κ × AV) → α) → α := @List.rec (κ × Opd) (fun _ => FE → α → (List (κ × AV) → α) → α) (fun _ _ k => k []) (fun p _ ih e d k => avK p.2 e d fun v => ih e d fun r => k ((p.1, v) :: r))
theorem partsF_eq {κ : Type} (l : List (κ × Opd)) (e : FE) (d : α) (k : List (κ × AV) → α) : partsF l e d k = match allParts e.env l with | some vs => k vs | none => d := by
  induction l generalizing k with
  | nil => rfl
  | cons p l ih =>
    obtain ⟨i, o⟩ := p
    show avK o e d (fun v => partsF l e d fun r => k ((i, v) :: r)) = _
    simp only [avK_eq, ih, allParts]
    cases e.env.av o with
    | none => rfl
    | some v => cases allParts e.env l <;> rfl

noncomputable def repF {β : Type} (n : Nat) (z : β) : List β := @Nat.rec (fun _ => List β) [] (fun _ ih => z :: ih) n
theorem repF_eq {β : Type} (n : Nat) (z : β) : repF n z = List.replicate n z := by
  induction n with
  | zero => rfl
  | succ n ih => show z :: repF n z = _; rw [ih]; rfl

noncomputable def mklK : List (Nat × AV) → List AV → α → (List AV → α) → α := @List.rec (Nat × AV) (fun _ => List AV → α → (List AV → α) → α) (fun xs _ k => k xs)
  (fun p _ ih xs d k => optK (nthF xs p.1) d fun o => ifK (Nat.beq (ncellsF p.2) (ncellsF o)) d (ih (setN xs p.1 p.2) d k))
theorem mklK_eq (l : List (Nat × AV)) (xs : List AV) (d : α) (k : List AV → α) : mklK l xs d k = match mklAV xs l with | some r => k r | none => d := by
  induction l generalizing xs with
  | nil => rfl
  | cons p l ih =>
    obtain ⟨i, v⟩ := p
    show optK (nthF xs i) d (fun o => ifK (Nat.beq (ncellsF v) (ncellsF o)) d (mklK l (setN xs i v) d k)) = _
    simp only [optK_eq, nthF_eq, ifK_beq, ncellsF_eq, ih, setN_eq, mklAV]
    cases xs[i]? with
    | none => rfl
    | some o => simp only; split <;> rfl

noncomputable def putC (cs : List AV) (off : Nat) (new : List AV) : List AV := appF (takeF off cs) (appF new (dropF (Nat.add off (lenF new)) cs))
theorem putC_eq (cs : List AV) (off : Nat) (new : List AV) : putC cs off new = putAt cs off new := by
  simp only [putC, appF_eq, takeF_eq, dropF_eq, lenF_eq, putAt, List.append_assoc]; rfl

noncomputable def fillK : List ((Nat × Nat) × AV) → List AV → α → (List AV → α) → α := @List.rec ((Nat × Nat) × AV) (fun _ => List AV → α → (List AV → α) → α) (fun cs _ k => k cs)
  (fun p _ ih cs d k => ifK (Nat.beq (ncellsF p.2) p.1.2) d (ifK (Nat.ble (Nat.add p.1.1 p.1.2) (lenF cs)) d (ih (putC cs p.1.1 (cellsF p.2)) d k)))
theorem fillK_eq (l : List ((Nat × Nat) × AV)) (cs : List AV) (d : α) (k : List AV → α) : fillK l cs d k = match fillAV cs l with | some r => k r | none => d := by
  induction l generalizing cs with
  | nil => rfl
  | cons p l ih =>
    obtain ⟨⟨off, sz⟩, v⟩ := p
    show ifK (Nat.beq (ncellsF v) sz) d (ifK (Nat.ble (Nat.add off sz) (lenF cs)) d (fillK l (putC cs off (cellsF v)) d k)) = _
    simp only [ifK_beq, ifK_ble, ncellsF_eq, cellsF_eq, lenF_eq, ih, putC_eq, fillAV, Nat.add_eq]
    by_cases h1 : v.cells.length = sz
    · by_cases h2 : off + sz ≤ cs.length
      · rw [if_pos h1, if_pos h2, if_pos ⟨h1, h2⟩]
      · rw [if_pos h1, if_neg h2, if_neg (fun h => h2 h.2)]
    · rw [if_neg h1, if_neg (fun h => h1 h.1)]
end
end Ey
