/- The fast form: operations that change nothing. -/
import Derived.Test.YtjcnpcdcpfbpdaaGreatDoorEyZ3
namespace Ey
open Go (IntKind FloatKind BinOp UnOp)

/-! ### more on lists of cells -/
/-- cells overwritten -/
noncomputable def putG (c : V) (off : Nat) (w : V) : V := appC (appC (dropC c (Nat.add off (lenC w))) w) (takeC c off)
noncomputable def nilC (a b : V) : V → V := clRec a (fun _ _ _ => b) (fun _ _ _ _ _ => b)
noncomputable def putC' (c : V) (off : Nat) (w : V) : V := clRec (putG c off w) (fun h t _ => nilC (setC h c off) (putG c off w) t) (fun k l n t _ => ifB (Nat.beq l 1) (putG c off w) (nilC (setC (mkS k (dig n 0)) c off) (putG c off w) t)) w
theorem putG_eq (c : V) (off : Nat) (w : V) : (putG c off w).cl = putAt c.cl off w.cl := by
  simp only [putG, appC_eq, dropC_eq, takeC_eq, lenC_eq, putAt, List.append_assoc]; rfl
theorem set_putAt {l : List AV} {off : Nat} {v : AV} (h : off < l.length) : l.set off v = putAt l off [v] := by
  rw [List.set_eq_take_append_cons_drop, if_pos h]
  simp [putAt]
theorem nilC_or {P : V → Prop} {a b : V} (t : V) (ha : t.cl = [] → P a) (hb : P b) : P (nilC a b t) := by
  refine cl_cases (P := fun t => (t.cl = [] → P a) → P (nilC a b t)) (fun h t _ _ => hb) (fun k l n t _ _ => hb) (fun v h0 h1 h => ?_) t ha
  have : nilC a b v = a := h0 _ _ _
  rw [this]; exact h h1
theorem putC'_eq {c : V} {off : Nat} (w : V) (h : off + w.cl.length ≤ c.cl.length) : (putC' c off w).cl = putAt c.cl off w.cl := by
  have gen := putG_eq c off w
  revert h gen
  refine cl_cases (P := fun w => off + w.cl.length ≤ c.cl.length → (putG c off w).cl = putAt c.cl off w.cl → (putC' c off w).cl = putAt c.cl off w.cl) (fun h t _ hl gen => ?_) (fun k l n t _ hl gen => ?_) (fun v h0 h1 hl gen => ?_) w
  · show (nilC (setC h c off) (putG c off (.one h t)) t).cl = _
    refine nilC_or (P := fun x => x.cl = _) t (fun ht => ?_) gen
    simp only [V.cl, List.length_cons] at hl
    rw [setC_eq, set_putAt (by omega)]; simp only [V.cl, ht]
  · show (ifB (Nat.beq l 1) (putG c off (.run k l n t)) (nilC (setC (mkS k (dig n 0)) c off) (putG c off (.run k l n t)) t)).cl = _
    rw [ifB_beq]
    split
    · rename_i h1
      subst h1
      refine nilC_or (P := fun x => x.cl = _) t (fun ht => ?_) gen
      simp only [V.cl, digs, List.length_cons, List.cons_append] at hl
      rw [setC_eq, set_putAt (by omega)]; simp only [V.cl, ht, digs, (mkS_sl _ _).1, dig_zero, List.append_nil]
    · exact gen
  · have : putC' c off v = putG c off v := h0 _ _ _
    rw [this]; exact gen

section
variable {q : Pr}
/-- a value of so many cells written over some -/
noncomputable def wrK (sz : Nat) (v c : V) (off : Nat) (d : FR) (f : V → FR) : FR := ceK v d fun w => ifB (Nat.beq (lenC w) sz) d (ifB (Nat.ble (Nat.add off sz) (lenC c)) d (f (putC' c off w)))
theorem wrK_ok {sz : Nat} {v c : V} {off : Nat} {d : FR} {f : V → FR} (hd : Agr d q) (hf : ∀ w : V, v.pv = some v.av → v.av.cells.length = sz → off + sz ≤ c.cl.length → w.cl = putAt c.cl off v.av.cells → Agr (f w) q) : Agr (wrK sz v c off d f) q := by
  refine ceK_ok (P := fun r => Agr r q) hd fun w hv hw => ?_
  rw [ifB_beq, ifB_ble, lenC_eq, lenC_eq]
  split
  · rename_i h1
    split
    · rename_i h2
      have h2' : off + sz ≤ c.cl.length := h2
      exact hf _ hv (by rw [← hw]; exact h1) h2 (by rw [putC'_eq w (by omega), hw])
    · exact hd
  · exact hd

/-- one cell overwritten, at hand -/
noncomputable def setK (v : V) (d : FR) : V → Nat → (V → FR) → FR := clRec (fun _ _ => d) (fun h t ih j k => @Nat.rec (fun _ => FR) (k (.one v t)) (fun p _ => ih p fun t' => k (.one h t')) j)
  (fun g l n t ih j k => @Bool.rec (fun _ => FR) (ih (Nat.sub j l) fun t' => k (.run g l n t'))
    (scK v (k (setC v (.run g l n t) j)) fun g' m => @Bool.rec (fun _ => FR) (k (setC v (.run g l n t) j)) (@Bool.rec (fun _ => FR) (k (setC v (.run g l n t) j)) (k (.run g l (digSet n j m) t)) (Nat.ble m 18446744073709551615)) (Nat.beq g g')) (Nat.ble (Nat.succ j) l))
theorem setK_ok {q : Pr} (v : V) {d : FR} (hd : Agr d q) (c : V) : ∀ (j : Nat) (k : V → FR), (∀ w : V, j < c.cl.length → w.cl = c.cl.set j v.av → Agr (k w) q) → Agr (setK v d c j k) q := by
  refine cl_cases (P := fun c => ∀ (j : Nat) (k : V → FR), (∀ w : V, j < c.cl.length → w.cl = c.cl.set j v.av → Agr (k w) q) → Agr (setK v d c j k) q) (fun h t ih j k hk => ?_) (fun g l n t ih j k hk => ?_) (fun w h0 h1 j k hk => ?_) c
  · cases j with
    | zero => exact hk _ (by simp [V.cl]) rfl
    | succ j => exact ih j _ fun w hl hw => hk _ (by simp only [V.cl, List.length_cons]; omega) (by simp only [V.cl, hw, List.set_cons_succ])
  · have slow : j < l → Agr (k (setC v (.run g l n t) j)) q := fun hl => hk _ (by simp only [V.cl, List.length_append, digs_length]; omega) (setC_eq _ _ _)
    show Agr (@Bool.rec (fun _ => FR) (setK v d t (Nat.sub j l) fun t' => k (.run g l n t'))
      (scK v (k (setC v (.run g l n t) j)) fun g' m => @Bool.rec (fun _ => FR) (k (setC v (.run g l n t) j)) (@Bool.rec (fun _ => FR) (k (setC v (.run g l n t) j)) (k (.run g l (digSet n j m) t)) (Nat.ble m 18446744073709551615)) (Nat.beq g g')) (Nat.ble (Nat.succ j) l)) q
    cases hb : Nat.ble (Nat.succ j) l with
    | false =>
      have hl : ¬ j < l := fun h2 => by rw [Nat.ble_eq_true_of_le h2] at hb; cases hb
      refine ih _ _ fun w hlt hw => hk _ (by simp only [V.cl, List.length_append, digs_length]; have : j - l < t.cl.length := hlt; omega) ?_
      simp only [V.cl, hw]
      rw [List.set_append_right _ _ (by rw [digs_length]; omega), digs_length]; rfl
    | true =>
      have hl : j < l := Nat.le_of_ble_eq_true hb
      refine scK_ok (P := fun r => Agr r q) (slow hl) fun g' m hv _ => ?_
      cases hg : Nat.beq g g' with
      | false => exact slow hl
      | true =>
        obtain rfl := Nat.eq_of_beq_eq_true hg
        cases hm : Nat.ble m 18446744073709551615 with
        | false => exact slow hl
        | true =>
          have hm' := Nat.le_of_ble_eq_true hm
          refine hk _ (by simp only [V.cl, List.length_append, digs_length]; omega) ?_
          simp only [V.cl]
          rw [← digs_set g l n j m (by omega), hv, List.set_append_left _ _ (by rw [digs_length]; exact hl)]
  · have : setK v d w j k = d := congrFun (congrFun (h0 (fun (_ : Nat) (_ : V → FR) => d) _ _) j) k
    rw [this]; exact hd

/-- an index, a bound -/
noncomputable def nnZ (v : V) (d : FR) (f : Nat → FR) : FR := numK v d (fun y => ifB (Nat.ble 9223372036854775808 y) d (f (Nat.sub y 9223372036854775808))) (fun _ y => f y) (fun _ _ => d)
theorem nnZ_ok {v : V} {r : Option AV} (hv : v.val r) {d : FR} {f : Nat → FR} (hd : Agr d q) (hf : ∀ (k : IntKind) (n : Nat), r = some (.int k n) → Agr (f n) q) : Agr (nnZ v d f) q := shK_ok hv hd hf
noncomputable def idZ (v : V) (n : Nat) (d : FR) (f : Nat → FR) : FR := nnZ v d fun j => ifB (Nat.ble (Nat.succ j) n) d (f j)
theorem idZ_ok {v : V} {r : Option AV} (hv : v.val r) {n : Nat} {d : FR} {f : Nat → FR} (hd : Agr d q) (hf : ∀ (k : IntKind) (j : Nat), r = some (.int k j) → j < n → Agr (f j) q) : Agr (idZ v n d f) q := by
  refine nnZ_ok hv hd fun k j hj => ?_
  rw [ifB_ble]
  split
  · rename_i h; exact hf k j hj h
  · exact hd

/-- a value handed on -/
noncomputable def haK (v : V) (κ : V → FR) : FR := vK v .bad (κ v)
theorem haK_ok {v : V} {κ : V → FR} (h : v.pv = some v.av → Agr (κ v) q) : Agr (haK v κ) q := vK_ok (P := fun r => Agr r q) q.bad h
end

def Pv (S : List Nat) : Type := E S → ZH → (V → FR) → FR
def PvOK {S : List Nat} (op : AOp) (p : Pv S) : Prop := ∀ (e : E S) (x : Env) (H : ZH) (κ : V → FR) (q : Pr), H.ok → Rel S e x → (∀ w s, opv x H.heap op = some s → w.den s → Agr (κ w) q) → Agr (p e H κ) q

theorem pv_den {w : V} {a : AV} (h : w.pv = some a) : w.den (.v a) := (V.pv_sl h).2.2.2

/-! ### lists of operands -/
structure La (S : List Nat) where
  run : E S → (V → FR) → FR
noncomputable def argC (S : List Nat) : List Opd → La S
  | [] => ⟨fun _ κ => κ .nil⟩
  | o :: r => ⟨fun e κ => vK ((opd S o).run e) .bad ((argC S r).run e fun t => κ (.one ((opd S o).run e) t))⟩
theorem argC_ok {S : List Nat} {e : E S} {x : Env} (h : Rel S e x) {q : Pr} : ∀ (l : List Opd) {κ : V → FR}, (∀ w vs, allAV x l = some vs → w.cl = vs → Agr (κ w) q) → Agr ((argC S l).run e κ) q
  | [], κ, hk => hk .nil [] rfl rfl
  | o :: r, κ, hk => by
    refine vK_ok (P := fun r => Agr r q) q.bad fun hp => argC_ok h r fun t vs ht hc => hk _ (((opd S o).run e).av :: vs) ?_ (by simp only [V.cl, hc])
    simp only [allAV, opd_val h o _ hp, ht, Option.map_some]

/-! ### the operations -/
section
variable {S : List Nat}
noncomputable def pMv (x : Opd) : Pv S := (fun e _ κ => mvK (opn x) ((opd S x).run e) .bad κ)
theorem pMv_ok (x : Opd) : PvOK (S := S) (.mv x) (pMv x) := fun e xe H κ q _ h hk => by
  refine mvK_ok (P := fun r => Agr r q) (opd_dle h x) q.bad fun w hw hs => hk w _ ?_ hw
  simp only [opv]; exact hs
noncomputable def pPick (c a b : Opd) : Pv S := (fun e _ κ => bK ((opd S c).run e) .bad (haK ((opd S a).run e) κ) (haK ((opd S b).run e) κ))
theorem pPick_ok (c a b : Opd) : PvOK (S := S) (.pick c a b) (pPick c a b) := fun e xe H κ q _ h hk => by
  refine bK_ok (P := fun r => Agr r q) (opd_val h c) q.bad (fun hc => haK_ok fun hp => hk _ _ ?_ (pv_den hp)) (fun hc => haK_ok fun hp => hk _ _ ?_ (pv_den hp))
  · simp only [opv, hc, if_true, opd_val h a _ hp, Option.map_some]
  · simp only [opv, hc, Bool.false_eq_true, if_false, opd_val h b _ hp, Option.map_some]
noncomputable def pBin (op : BinOp) (a b : Opd) : Pv S := (fun e _ κ => binZ op ((opd S a).run e) ((opd S b).run e) κ)
theorem pBin_ok (op : BinOp) (a b : Opd) : PvOK (S := S) (.bin op a b) (pBin op a b) := fun e xe H κ q _ h hk => by
  refine binZ_ok op (opd_val h a) (opd_val h b) fun w r hr hp => hk w (.v r) ?_ (pv_den hp)
  simp only [bin2] at hr
  simp only [opv]
  split at hr
  · rename_i a' b' ha hb; rw [ha, hb]; simp only [hr, Option.map_some]
  · cases hr

noncomputable def allI (ks : List BK) : Bool := @List.rec BK (fun _ => Bool) true (fun k _ ih => @BK.rec (fun _ => Bool) false ih false k) ks
theorem allI_eq : ∀ {ks : List BK}, allI ks = true → ks = List.replicate ks.length .i
  | [], _ => rfl
  | .b :: ks, h => by cases h
  | .i :: ks, h => by
    have := allI_eq (ks := ks) h
    simp only [List.length_cons, List.replicate_succ]
    rw [← this]
  | .s :: ks, h => by cases h
theorem eqCells_digs (k : Nat) (hk : k ≠ 1) : ∀ l n n', eqCells (List.replicate l .i) (digs k l n) (digs k l n') = some (Nat.beq (n % 18446744073709551616 ^ l) (n' % 18446744073709551616 ^ l))
  | 0, n, n' => by simp [eqCells, digs, Nat.mod_one]
  | l + 1, n, n' => by
    have e1 : ∀ n, n % 18446744073709551616 ^ (l + 1) = n % 18446744073709551616 + 18446744073709551616 * (n / 18446744073709551616 % 18446744073709551616 ^ l) := fun n => by
      rw [Nat.pow_succ, Nat.mul_comm, Nat.mod_mul]
    have hc : eqCell .i (scal k (n % 18446744073709551616)) (scal k (n' % 18446744073709551616)) = some (Nat.beq (n % 18446744073709551616) (n' % 18446744073709551616)) := by
      match k, hk with
      | 0, _ =>
        simp only [scal, eqCell, if_true, beq_dec, Option.some.injEq]
        rw [Bool.eq_iff_iff]; simp; omega
      | k + 2, _ =>
        simp only [scal, eqCell, if_true, beq_dec, Option.some.injEq]
        rw [Bool.eq_iff_iff]; simp; omega
    simp only [digs, List.replicate_succ, eqCells, hc, beq_dec, e1]
    have h1 := Nat.mod_lt n (show 18446744073709551616 > 0 from by decide)
    have h2 := Nat.mod_lt n' (show 18446744073709551616 > 0 from by decide)
    by_cases h : n % 18446744073709551616 = n' % 18446744073709551616
    · simp only [h, decide_true, eqCells_digs k hk l, beq_dec, Option.some.injEq, decide_eq_decide]; omega
    · simp only [h, decide_false, Option.some.injEq]
      symm
      rw [decide_eq_false_iff_not]; omega
noncomputable def eqS (ks : List BK) (a b : V) (f : Bool → FR) : FR := @Option.rec Bool (fun _ => FR) .bad f (eqAV (.agg ks) (.agg a.cl) (.agg b.cl))
noncomputable def eqA (ks : List BK) (a b : V) (f : Bool → FR) : FR := clRec (eqS ks a b f) (fun _ _ _ => eqS ks a b f) (fun k l n t _ => clRec (eqS ks a b f) (fun _ _ _ => eqS ks a b f)
  (fun k' l' n' t' _ => ifB (allI ks) (eqS ks a b f) (ifB (Nat.beq (List.length ks) l) (eqS ks a b f) (ifB (Nat.beq l' l) (eqS ks a b f) (ifB (Nat.beq k k') (eqS ks a b f) (@Bool.rec (fun _ => FR)
    (clRec (clRec (f (Nat.beq (Nat.mod n (Nat.shiftLeft 1 (Nat.mul 64 l))) (Nat.mod n' (Nat.shiftLeft 1 (Nat.mul 64 l))))) (fun _ _ _ => eqS ks a b f) (fun _ _ _ _ _ => eqS ks a b f) t') (fun _ _ _ => eqS ks a b f) (fun _ _ _ _ _ => eqS ks a b f) t) (eqS ks a b f) (Nat.beq k 1)))))) b) a
theorem eqA_ok {q : Pr} {ks : List BK} {a b : V} {f : Bool → FR} (h : ∀ r, eqAV (.agg ks) (.agg a.cl) (.agg b.cl) = some r → Agr (f r) q) : Agr (eqA ks a b f) q := by
  have sl : Agr (eqS ks a b f) q := by
    simp only [eqS]
    cases hr : eqAV (.agg ks) (.agg a.cl) (.agg b.cl) with
    | none => exact q.bad
    | some r => exact h r hr
  revert h sl
  generalize hs : eqS ks a b f = s
  unfold eqA
  rw [hs]
  clear hs
  refine cl_cases (P := fun a => (∀ r, eqAV (.agg ks) (.agg a.cl) (.agg b.cl) = some r → Agr (f r) q) → Agr s q → Agr (clRec s (fun _ _ _ => s) (fun k l n t _ => clRec s (fun _ _ _ => s)
  (fun k' l' n' t' _ => ifB (allI ks) s (ifB (Nat.beq (List.length ks) l) s (ifB (Nat.beq l' l) s (ifB (Nat.beq k k') s (@Bool.rec (fun _ => FR)
    (clRec (clRec (f (Nat.beq (Nat.mod n (Nat.shiftLeft 1 (Nat.mul 64 l))) (Nat.mod n' (Nat.shiftLeft 1 (Nat.mul 64 l))))) (fun _ _ _ => s) (fun _ _ _ _ _ => s) t') (fun _ _ _ => s) (fun _ _ _ _ _ => s) t) s (Nat.beq k 1)))))) b) a) q) (fun _ _ _ _ sl => sl) (fun k l n t _ h sl => ?_) (fun v h0 _ _ sl => by rw [h0]; exact sl) a
  revert h
  refine cl_cases (P := fun b => (∀ r, eqAV (.agg ks) (.agg (V.run k l n t).cl) (.agg b.cl) = some r → Agr (f r) q) → Agr (clRec s (fun _ _ _ => s)
  (fun k' l' n' t' _ => ifB (allI ks) s (ifB (Nat.beq (List.length ks) l) s (ifB (Nat.beq l' l) s (ifB (Nat.beq k k') s (@Bool.rec (fun _ => FR)
    (clRec (clRec (f (Nat.beq (Nat.mod n (Nat.shiftLeft 1 (Nat.mul 64 l))) (Nat.mod n' (Nat.shiftLeft 1 (Nat.mul 64 l))))) (fun _ _ _ => s) (fun _ _ _ _ _ => s) t') (fun _ _ _ => s) (fun _ _ _ _ _ => s) t) s (Nat.beq k 1)))))) b) q) (fun _ _ _ _ => sl) (fun k' l' n' t' _ h => ?_) (fun v h0 _ _ => by rw [h0]; exact sl) b
  show Agr (ifB (allI ks) s (ifB (Nat.beq (List.length ks) l) s (ifB (Nat.beq l' l) s (ifB (Nat.beq k k') s (@Bool.rec (fun _ => FR)
    (clRec (clRec (f (Nat.beq (Nat.mod n (Nat.shiftLeft 1 (Nat.mul 64 l))) (Nat.mod n' (Nat.shiftLeft 1 (Nat.mul 64 l))))) (fun _ _ _ => s) (fun _ _ _ _ _ => s) t') (fun _ _ _ => s) (fun _ _ _ _ _ => s) t) s (Nat.beq k 1)))))) q
  refine ifB_ok (P := fun r => Agr r q) sl fun hI => ?_
  rw [ifB_beq, ifB_beq, ifB_beq]
  by_cases h1 : ks.length = l
  · by_cases h2 : l' = l
    · by_cases h3 : k = k'
      · rw [if_pos h1, if_pos h2, if_pos h3]
        subst h2 h3
        cases hk : Nat.beq k 1 with
        | true => exact sl
        | false =>
          have hk' := Nat.ne_of_beq_eq_false hk
          revert h
          refine cl_cases (P := fun t => (∀ r, eqAV (.agg ks) (.agg (V.run k l' n t).cl) (.agg (V.run k l' n' t').cl) = some r → Agr (f r) q) → Agr (clRec (clRec (f (Nat.beq (Nat.mod n (Nat.shiftLeft 1 (Nat.mul 64 l'))) (Nat.mod n' (Nat.shiftLeft 1 (Nat.mul 64 l'))))) (fun _ _ _ => s) (fun _ _ _ _ _ => s) t') (fun _ _ _ => s) (fun _ _ _ _ _ => s) t) q) (fun _ _ _ _ => sl) (fun _ _ _ _ _ _ => sl) (fun v h0 hv h => ?_) t
          rw [h0]
          revert h
          refine cl_cases (P := fun t' => (∀ r, eqAV (.agg ks) (.agg (V.run k l' n v).cl) (.agg (V.run k l' n' t').cl) = some r → Agr (f r) q) → Agr (clRec (f (Nat.beq (Nat.mod n (Nat.shiftLeft 1 (Nat.mul 64 l'))) (Nat.mod n' (Nat.shiftLeft 1 (Nat.mul 64 l'))))) (fun _ _ _ => s) (fun _ _ _ _ _ => s) t') q) (fun _ _ _ _ => sl) (fun _ _ _ _ _ _ => sl) (fun v' h0' hv' h => ?_) t'
          rw [h0']
          refine h _ ?_
          simp only [eqAV, V.cl, hv, hv', List.append_nil, digs_length, h1, and_self, if_true]
          rw [allI_eq hI, h1, eqCells_digs k hk', shl_pow, Nat.one_mul]; rfl
      · rw [if_pos h1, if_pos h2, if_neg h3]; exact sl
    · rw [if_pos h1, if_neg h2]; exact sl
  · rw [if_neg h1]; exact sl

noncomputable def xorB (neg : Bool) (r : Bool) : Bool := @Bool.rec (fun _ => Bool) r (zNot r) neg
theorem xorB_eq (neg r : Bool) : xorB neg r = (r != neg) := by cases neg <;> cases r <;> rfl
noncomputable def nilF (x : FR) (c : V) : FR := clRec x (fun _ _ _ => .bad) (fun _ _ _ _ _ => .bad) c
theorem nilF_ok {q : Pr} {x : FR} {c : V} (h : c.cl = [] → Agr x q) : Agr (nilF x c) q := by
  refine cl_cases (P := fun c => (c.cl = [] → Agr x q) → Agr (nilF x c) q) (fun _ _ _ _ => q.bad) (fun _ _ _ _ _ _ => q.bad) (fun v h0 h1 h => ?_) c h
  have : nilF x v = x := h0 _ _ _
  rw [this]; exact h h1
noncomputable def eqZ (neg : Bool) (k : EqK) (a b : V) (κ : V → FR) : FR := @EqK.rec (fun _ => FR)
  (boK a .bad fun x => boK b .bad fun y => κ (.b (xorB neg (@Bool.rec (fun _ => Bool) (zNot y) y x))))
  (fun ks => agK a .bad fun c => agK b .bad fun c' => eqA ks c c' fun r => κ (.b (xorB neg r)))
  (npK a .bad (npK b .bad (κ (.b (xorB neg true))) (κ (.b (xorB neg false)))) (npK b .bad (κ (.b (xorB neg false))) .bad))
  (slcK' b .bad (fun nl c => @Bool.rec (fun _ => FR) .bad (nilF (slcK' a .bad (fun n _ => κ (.b (xorB neg n))) (κ (.b (xorB neg false))) fun _ _ _ _ => .bad) c) nl) .bad fun _ _ _ _ => .bad)
  (nfK b .bad (nfK a .bad (κ (.b (xorB neg true))) (κ (.b (xorB neg false)))) .bad)
  (fcK b .bad (fun _ _ => .bad) (fcK a .bad (fun _ _ => κ (.b (xorB neg false))) (κ (.b (xorB neg true)))))
  .bad k
theorem eqZ_ok {q : Pr} (neg : Bool) (k : EqK) {a b : V} {ra rb : Option AV} (ha : a.val ra) (hb : b.val rb) {κ : V → FR}
    (h : ∀ u w r, ra = some u → rb = some w → eqAV k u w = some r → Agr (κ (.b (xorB neg r))) q) : Agr (eqZ neg k a b κ) q := by
  cases k with
  | bool =>
    refine boK_ok (P := fun r => Agr r q) ha q.bad fun x hx => boK_ok (P := fun r => Agr r q) hb q.bad fun y hy => ?_
    have := h _ _ (x == y) hx hy rfl
    cases x <;> cases y <;> exact this
  | agg ks =>
    refine agK_ok (P := fun r => Agr r q) ha q.bad fun c hc => agK_ok (P := fun r => Agr r q) hb q.bad fun c' hc' => eqA_ok fun r hr => h _ _ r hc hc' hr
  | ptr =>
    refine npK_ok (P := fun r => Agr r q) ha q.bad (fun hx => npK_ok (P := fun r => Agr r q) hb q.bad (fun hy => h _ _ true hx hy rfl) (fun hy => ?_)) (fun hx => npK_ok (P := fun r => Agr r q) hb q.bad (fun hy => ?_) (fun _ => q.bad))
    · rcases hy with ⟨_, hy⟩ | ⟨_, _, hy⟩ | ⟨_, _, _, _, hy⟩ <;> exact h _ _ false hx hy rfl
    · rcases hx with ⟨_, hx⟩ | ⟨_, _, hx⟩ | ⟨_, _, _, _, hx⟩ <;> exact h _ _ false hx hy rfl
  | slice =>
    refine slcK'_ok (P := fun r => Agr r q) hb q.bad (fun nl c hc => ?_) (fun _ => q.bad) (fun _ _ _ _ _ => q.bad)
    cases nl with
    | false => exact q.bad
    | true =>
      refine nilF_ok fun he => ?_
      rw [he] at hc
      exact slcK'_ok (P := fun r => Agr r q) ha q.bad (fun n c' hc' => h _ _ n hc' hc rfl) (fun hc' => h _ _ false hc' hc rfl) (fun _ _ _ _ _ => q.bad)
  | fn =>
    refine nfK_ok (P := fun r => Agr r q) hb q.bad (fun hy => nfK_ok (P := fun r => Agr r q) ha q.bad (fun hx => h _ _ true hx hy rfl) (fun ⟨_, _, hx⟩ => h _ _ false hx hy rfl)) (fun _ => q.bad)
  | iface =>
    refine fcK_ok (P := fun r => Agr r q) hb q.bad (fun _ _ _ => q.bad) (fun hy => fcK_ok (P := fun r => Agr r q) ha q.bad (fun _ _ hx => h _ _ false hx hy rfl) (fun hx => h _ _ true hx hy rfl))
  | map => exact q.bad
noncomputable def pEq (neg : Bool) (k : EqK) (a b : Opd) : Pv S := (fun e _ κ => eqZ neg k ((opd S a).run e) ((opd S b).run e) κ)
theorem pEq_ok (neg : Bool) (k : EqK) (a b : Opd) : PvOK (S := S) (.eq neg k a b) (pEq neg k a b) := fun e xe H κ q _ h hk => by
  refine eqZ_ok neg k (opd_val h a) (opd_val h b) fun u w r hu hw hr => hk _ (.v (.bool (r != neg))) ?_ ?_
  · simp only [opv, hu, hw, hr, Option.map_some]
  · rw [xorB_eq]; rfl

/-! numbers -/
noncomputable def slowU (op : UnOp) (a : V) (κ : V → FR) : FR := vK a .bad (@Option.rec AV (fun _ => FR) .bad (fun r => κ (ofAV r)) (unAV op a.av))
theorem slowU_ok {q : Pr} {op : UnOp} {a : V} {ra : Option AV} (ha : a.val ra) {κ : V → FR} (h : ∀ u, ra = some u → Ans κ q (unAV op u)) : Agr (slowU op a κ) q := by
  refine vK_ok (P := fun r => Agr r q) q.bad fun h1 => ?_
  have h' := h _ (ha _ h1)
  cases hr : unAV op a.av with
  | none => exact q.bad
  | some r => exact h' _ _ hr (ofAV_pv r).1
noncomputable def unZ (op : UnOp) (a : V) (κ : V → FR) : FR := @UnOp.rec (fun _ => FR) (slowU .neg a κ) (slowU .xor a κ) (boK a .bad fun x => κ (.b (zNot x))) (slowU .plus a κ) op
noncomputable def pUn (op : UnOp) (a : Opd) : Pv S := (fun e _ κ => unZ op ((opd S a).run e) κ)
theorem pUn_ok (op : UnOp) (a : Opd) : PvOK (S := S) (.un op a) (pUn op a) := fun e xe H κ q _ h hk => by
  have hs : ∀ u, xe.av a = some u → Ans κ q (unAV op u) := fun u hu w r hr hp => hk w (.v r) (by simp only [opv, hu, hr, Option.map_some]) (pv_den hp)
  have ha := opd_val h a
  cases op <;> first
    | exact slowU_ok ha hs
    | exact boK_ok (P := fun r => Agr r q) ha q.bad fun x hx => hs _ hx (.b (zNot x)) _ rfl (by rw [zNot_eq]; rfl)

noncomputable def slowC (k : IntKind) (a : V) (κ : V → FR) : FR := vK a .bad (@Option.rec Int (fun _ => FR) .bad (fun r => κ (ofAV (.int k (k.wrap r)))) (getI a.av))
/-- the codes of kinds: 0 the whole numbers of 64 bits, 2.. kinds without a sign, 1 others -/
def kcd (k : IntKind) : Nat := match k with
  | .i64 => 0
  | .u8 => 2
  | .u16 => 3
  | .u32 => 4
  | .u64 => 5
  | _ => 1
theorem kcd_eq {k : IntKind} {c : Nat} (h : kcd k = c + 2) : k = kk c := by
  cases k <;> simp only [kcd] at h <;> first | (obtain rfl : c = 0 := (by omega); rfl) | (obtain rfl : c = 1 := (by omega); rfl) | (obtain rfl : c = 2 := (by omega); rfl) | (obtain rfl : c = 3 := (by omega); rfl) | omega
noncomputable def cviZ (k : IntKind) (c : Nat) (a : V) (κ : V → FR) : FR := @Nat.rec (fun _ => FR)
  (numK a (slowC k a κ) (fun n => ifB (Nat.ble n 18446744073709551615) (slowC k a κ) (κ (.i n))) (fun _ n => ifB (Nat.ble n 9223372036854775807) (slowC k a κ) (κ (.i (Nat.add n 9223372036854775808)))) (fun _ _ => slowC k a κ))
  (fun c1 _ => @Nat.rec (fun _ => FR) (slowC k a κ)
    (fun c2 _ => numK a (slowC k a κ) (fun n => ifB (Nat.ble 9223372036854775808 n) (slowC k a κ) (κ (.u c2 (Nat.mod (Nat.sub n 9223372036854775808) (mK c2))))) (fun _ n => κ (.u c2 (Nat.mod n (mK c2)))) (fun _ _ => slowC k a κ)) c1) c
noncomputable def pCvi (k : IntKind) (a : Opd) : Pv S := (fun e _ κ => cviZ k (kcd k) ((opd S a).run e) κ)
theorem pCvi_ok (k : IntKind) (a : Opd) : PvOK (S := S) (.cvi k a) (pCvi k a) := fun e xe H κ q _ h hk => by
  have ha := opd_val h a
  have hs : ∀ k' n, xe.av a = some (.int k' n) → Ans κ q (some (.int k (k.wrap n))) := fun k' n hu w r hr hp => hk w (.v r) (by simp only [opv, hu]; simp only [Option.some.injEq] at hr; rw [hr]) (pv_den hp)
  have sl : Agr (slowC k ((opd S a).run e) κ) q := by
    refine vK_ok (P := fun r => Agr r q) q.bad fun h1 => ?_
    have h2 := ha _ h1
    revert h2
    generalize ((opd S a).run e).av = u
    intro h2
    cases u <;> try exact q.bad
    exact hs _ _ h2 _ _ rfl (ofAV_pv _).1
  show Agr (cviZ k (kcd k) ((opd S a).run e) κ) q
  match hc : kcd k with
  | 0 =>
    obtain rfl : k = .i64 := by cases k <;> simp [kcd] at hc; rfl
    refine numK_ok (P := fun r => Agr r q) ha sl (fun n hn => ?_) (fun k' n hn => ?_) (fun _ _ _ => sl)
    · rw [ifB_ble]
      split
      · rename_i h1
        have h1' : n ≤ 18446744073709551615 := h1
        refine hs _ _ hn (.i n) _ rfl ?_
        rw [wrap64 (by omega) (by omega)]; rfl
      · exact sl
    · rw [ifB_ble]
      split
      · rename_i h1
        refine hs _ _ hn (.i _) _ rfl ?_
        have h1' : n ≤ 9223372036854775807 := h1
        rw [wrap64 (by omega) (by omega)]
        simp only [V.pv, V.av, Option.some.injEq, AV.int.injEq, true_and]
        show (((n + 9223372036854775808 : Nat) : Int) - 9223372036854775808) = n
        omega
      · exact sl
  | 1 => exact sl
  | c + 2 =>
    obtain rfl := kcd_eq hc
    refine numK_ok (P := fun r => Agr r q) ha sl (fun n hn => ?_) (fun k' n hn => hs _ _ hn (.u c _) _ rfl ?_) (fun _ _ _ => sl)
    · rw [ifB_ble]
      split
      · rename_i h1
        refine hs _ _ hn (.u c _) _ rfl ?_
        obtain ⟨u, rfl⟩ := Nat.exists_eq_add_of_le h1
        have e1 : Nat.sub (9223372036854775808 + u) 9223372036854775808 = u := Nat.add_sub_cancel_left ..
        have e3 : (((9223372036854775808 + u : Nat) : Int) - 9223372036854775808) = (u : Int) := by omega
        rw [e1, e3, wrapUn]; rfl
      · exact sl
    · rw [wrapUn]; rfl
end
end Ey
