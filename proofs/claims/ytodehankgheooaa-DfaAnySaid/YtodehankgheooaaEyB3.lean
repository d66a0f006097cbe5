/- The fast form: operations that change nothing. -/
import Derived.Test.YtodehankgheooaaEyB2
import Derived.Below
import Derived.ChangeSame
import Derived.Lib.LaidTab
import Derived.Stop.LaidErr
import Derived.MakeChecks
import Derived.LaidMore
import Derived.LaidHandle
import Derived.Stop.Joined
import GoSem.PinnedTables
import Derived.ChangeArms
import Derived.OpenShut
import Derived.WideKeyArgs
namespace Ey
open Go (IntKind FloatKind BinOp UnOp)

/-! ### more on lists of cells -/
noncomputable def putG (c : V) (off : Nat) (w : V) : V := appC (appC (dropC c (Nat.add off (lenC w))) w) (takeC c off)
noncomputable def nilC (a b : V) : V → V := clRec a (fun _ _ _ => b) (fun _ _ _ _ _ => b)
noncomputable def putC' (c : V) (off : Nat) (w : V) : V := clRec (putG c off w) (fun h t _ => nilC (setC h c off) (putG c off w) t) (fun k l n t _ => ifB (Nat.beq l 1) (putG c off w) (nilC (setC (mkS k (dig n 0)) c off) (putG c off w) t)) w
theorem putG_eq (c : V) (off : Nat) (w : V) : (putG c off w).cl = putAt c.cl off w.cl := by
  simp only [putG, appC_eq, dropC_eq, takeC_eq, lenC_eq, putAt, List.append_assoc]; rfl
theorem set_putAt {l : List AV} {off : Nat} {v : AV} (h : off < l.length) : l.set off v = putAt l off [v] := by
  rw [List.set_eq_take_append_cons_drop, if_pos h]
  simp [putAt]
theorem nilC_or {P : V → Prop} {a b : V} (t : V) (ha : t.cl = [] → P a) (hb : P b) : P (nilC a b t) := by
  refine cl_cases (P := fun t => (t.cl = [] → P a) → P (nilC a b t)) (fun h t _ _ => hb) (fun k l n t _ _ => hb) (fun v h0 h1 h => ?_) t ha
  have : nilC a b v = a := h0 _ _ _
  rw [this]; exact h h1
theorem putC'_eq {c : V} {off : Nat} (w : V) (h : off + w.cl.length ≤ c.cl.length) : (putC' c off w).cl = putAt c.cl off w.cl := by
  have gen := putG_eq c off w
  revert h gen
  refine cl_cases (P := fun w => off + w.cl.length ≤ c.cl.length → (putG c off w).cl = putAt c.cl off w.cl → (putC' c off w).cl = putAt c.cl off w.cl) (fun h t _ hl gen => ?_) (fun k l n t _ hl gen => ?_) (fun v h0 h1 hl gen => ?_) w
  · show (nilC (setC h c off) (putG c off (.one h t)) t).cl = _
    refine nilC_or (P := fun x => x.cl = _) t (fun ht => ?_) gen
    simp only [V.cl, List.length_cons] at hl
    rw [setC_eq, set_putAt (by omega)]; simp only [V.cl, ht]
  · show (ifB (Nat.beq l 1) (putG c off (.run k l n t)) (nilC (setC (mkS k (dig n 0)) c off) (putG c off (.run k l n t)) t)).cl = _
    rw [ifB_beq]
    split
    · rename_i h1
      subst h1
      refine nilC_or (P := fun x => x.cl = _) t (fun ht => ?_) gen
      simp only [V.cl, digs, List.length_cons, List.cons_append] at hl
      rw [setC_eq, set_putAt (by omega)]; simp only [V.cl, ht, digs, (mkS_sl _ _).1, dig_zero, List.append_nil]
    · exact gen
  · have : putC' c off v = putG c off v := h0 _ _ _
    rw [this]; exact gen

section
variable {q : Pr}
noncomputable def wrK (sz : Nat) (v c : V) (off : Nat) (d : FR) (f : V → FR) : FR := ceK v d fun w => ifB (Nat.beq (lenC w) sz) d (ifB (Nat.ble (Nat.add off sz) (lenC c)) d (f (putC' c off w)))
theorem wrK_ok {sz : Nat} {v c : V} {off : Nat} {d : FR} {f : V → FR} (hd : Agr d q) (hf : ∀ w : V, v.pv = some v.av → v.av.cells.length = sz → off + sz ≤ c.cl.length → w.cl = putAt c.cl off v.av.cells → Agr (f w) q) : Agr (wrK sz v c off d f) q := by
  refine ceK_ok (P := fun r => Agr r q) hd fun w hv hw => ?_
  rw [ifB_beq, ifB_ble, lenC_eq, lenC_eq]
  split
  · rename_i h1
    split
    · rename_i h2
      have h2' : off + sz ≤ c.cl.length := h2
      exact hf _ hv (by rw [← hw]; exact h1) h2 (by rw [putC'_eq w (by omega), hw])
    · exact hd
  · exact hd

noncomputable def setK (v : V) (d : FR) : V → Nat → (V → FR) → FR := clRec (fun _ _ => d) (fun h t ih j k => @Nat.rec (fun _ => FR) (k (.one v t)) (fun p _ => ih p fun t' => k (.one h t')) j)
  (fun g l n t ih j k => @Bool.rec (fun _ => FR) (ih (Nat.sub j l) fun t' => k (.run g l n t'))
    (scK v (k (setC v (.run g l n t) j)) fun g' m => @Bool.rec (fun _ => FR) (k (setC v (.run g l n t) j)) (@Bool.rec (fun _ => FR) (k (setC v (.run g l n t) j)) (k (.run g l (digSet n j m) t)) (Nat.ble m 18446744073709551615)) (Nat.beq g g')) (Nat.ble (Nat.succ j) l))
theorem setK_ok {q : Pr} (v : V) {d : FR} (hd : Agr d q) (c : V) : ∀ (j : Nat) (k : V → FR), (∀ w : V, j < c.cl.length → w.cl = c.cl.set j v.av → Agr (k w) q) → Agr (setK v d c j k) q := by
  refine cl_cases (P := fun c => ∀ (j : Nat) (k : V → FR), (∀ w : V, j < c.cl.length → w.cl = c.cl.set j v.av → Agr (k w) q) → Agr (setK v d c j k) q) (fun h t ih j k hk => ?_) (fun g l n t ih j k hk => ?_) (fun w h0 h1 j k hk => ?_) c
  · cases j with
    | zero => exact hk _ (by simp [V.cl]) rfl
    | succ j => exact ih j _ fun w hl hw => hk _ (by simp only [V.cl, List.length_cons]; omega) (by simp only [V.cl, hw, List.set_cons_succ])
  · have slow : j < l → Agr (k (setC v (.run g l n t) j)) q := fun hl => hk _ (by simp only [V.cl, List.length_append, digs_length]; omega) (setC_eq _ _ _)
    show Agr (@Bool.rec (fun _ => FR) (setK v d t (Nat.sub j l) fun t' => k (.run g l n t'))
      (scK v (k (setC v (.run g l n t) j)) fun g' m => @Bool.rec (fun _ => FR) (k (setC v (.run g l n t) j)) (@Bool.rec (fun _ => FR) (k (setC v (.run g l n t) j)) (k (.run g l (digSet n j m) t)) (Nat.ble m 18446744073709551615)) (Nat.beq g g')) (Nat.ble (Nat.succ j) l)) q
    cases hb : Nat.ble (Nat.succ j) l with
    | false =>
      have hl : ¬ j < l := fun h2 => by rw [Nat.ble_eq_true_of_le h2] at hb; cases hb
      refine ih _ _ fun w hlt hw => hk _ (by simp only [V.cl, List.length_append, digs_length]; have : j - l < t.cl.length := hlt; omega) ?_
      simp only [V.cl, hw]
      rw [List.set_append_right _ _ (by rw [digs_length]; omega), digs_length]; rfl
    | true =>
      have hl : j < l := Nat.le_of_ble_eq_true hb
      refine scK_ok (P := fun r => Agr r q) (slow hl) fun g' m hv _ => ?_
      cases hg : Nat.beq g g' with
      | false => exact slow hl
      | true =>
        obtain rfl := Nat.eq_of_beq_eq_true hg
        cases hm : Nat.ble m 18446744073709551615 with
        | false => exact slow hl
        | true =>
          have hm' := Nat.le_of_ble_eq_true hm
          refine hk _ (by simp only [V.cl, List.length_append, digs_length]; omega) ?_
          simp only [V.cl]
          rw [← digs_set g l n j m (by omega), hv, List.set_append_left _ _ (by rw [digs_length]; exact hl)]
  · have : setK v d w j k = d := congrFun (congrFun (h0 (fun (_ : Nat) (_ : V → FR) => d) _ _) j) k
    rw [this]; exact hd

noncomputable def nnZ : V → FR → (Nat → FR) → FR := @V.rec (fun _ => FR → (Nat → FR) → FR) (fun y d f => ifB (Nat.ble 9223372036854775808 y) d (f (Nat.sub y 9223372036854775808))) (fun _ d _ => d) (fun _ y _ f => f y) (fun _ _ d _ => d) (fun _ d _ => d) (fun _ _ _ d _ => d) (fun d _ => d) (fun _ _ _ _ d _ => d) (fun _ _ d _ => d) (fun d _ => d) (fun _ _ d _ => d) (fun _ _ _ _ d _ => d) (fun _ _ _ d _ => d) (fun d _ => d) (fun _ _ _ d _ => d) (fun d _ => d) (fun _ _ d _ => d) (fun _ _ d _ => d) (fun d _ => d) (fun _ _ _ _ d _ => d) (fun _ _ _ _ _ d _ => d) (fun d _ => d) (fun d _ => d) (fun d _ => d) (fun _ _ d _ => d) (fun _ _ d _ => d)
theorem nnZ_ok {v : V} {r : Option AV} (hv : v.val r) {d : FR} {f : Nat → FR} (hd : Agr d q) (hf : ∀ (k : IntKind) (n : Nat), r = some (.int k n) → Agr (f n) q) : Agr (nnZ v d f) q := by
  have h := shK_ok hv hd hf
  cases v <;> exact h
noncomputable def idZc : V → Nat → FR → (Nat → FR) → FR := @V.rec (fun _ => Nat → FR → (Nat → FR) → FR) (fun y n d f => ifB (Nat.ble 9223372036854775808 y) d (ifB (Nat.ble (Nat.succ (Nat.sub y 9223372036854775808)) n) d (f (Nat.sub y 9223372036854775808)))) (fun _ _ d _ => d) (fun _ y n d f => ifB (Nat.ble (Nat.succ y) n) d (f y)) (fun _ _ _ d _ => d) (fun _ _ d _ => d) (fun _ _ _ _ d _ => d) (fun _ d _ => d) (fun _ _ _ _ _ d _ => d) (fun _ _ _ d _ => d) (fun _ d _ => d) (fun _ _ _ d _ => d) (fun _ _ _ _ _ d _ => d) (fun _ _ _ _ d _ => d) (fun _ d _ => d) (fun _ _ _ _ d _ => d) (fun _ d _ => d) (fun _ _ _ d _ => d) (fun _ _ _ d _ => d) (fun _ d _ => d) (fun _ _ _ _ _ d _ => d) (fun _ _ _ _ _ _ d _ => d) (fun _ d _ => d) (fun _ d _ => d) (fun _ d _ => d) (fun _ _ _ d _ => d) (fun _ _ _ d _ => d)
noncomputable def idZ (v : V) (n : Nat) (d : FR) (f : Nat → FR) : FR := idZc v n d f
theorem idZ_eq (v : V) (n : Nat) (d : FR) (f : Nat → FR) : idZ v n d f = nnZ v d fun j => ifB (Nat.ble (Nat.succ j) n) d (f j) := by cases v <;> rfl
theorem idZ_ok {v : V} {r : Option AV} (hv : v.val r) {n : Nat} {d : FR} {f : Nat → FR} (hd : Agr d q) (hf : ∀ (k : IntKind) (j : Nat), r = some (.int k j) → j < n → Agr (f j) q) : Agr (idZ v n d f) q := by
  rw [idZ_eq]
  refine nnZ_ok hv hd fun k j hj => ?_
  rw [ifB_ble]
  split
  · rename_i h; exact hf k j hj h
  · exact hd

noncomputable def haKc : V → V → (V → FR) → FR := @V.rec (fun _ => V → (V → FR) → FR) (fun _ v κ => κ v) (fun _ v κ => κ v) (fun _ _ v κ => κ v) (fun _ _ v κ => κ v) (fun _ v κ => κ v) (fun _ _ _ v κ => κ v) (fun v κ => κ v) (fun _ _ _ _ v κ => κ v) (fun _ _ v κ => κ v) (fun v κ => κ v) (fun _ _ v κ => κ v) (fun _ _ _ _ v κ => κ v) (fun _ _ _ v κ => κ v) (fun v κ => κ v) (fun _ _ _ v κ => κ v) (fun v κ => κ v) (fun _ _ v κ => κ v) (fun _ _ v κ => κ v) (fun _ _ => .bad) (fun _ _ _ _ _ _ => .bad) (fun _ _ _ _ _ _ _ => .bad) (fun _ _ => .bad) (fun _ _ => .bad) (fun _ _ => .bad) (fun _ _ _ _ => .bad) (fun _ _ _ _ => .bad)
noncomputable def haK (v : V) (κ : V → FR) : FR := haKc v v κ
theorem haK_eq (v : V) (κ : V → FR) : haK v κ = vK v .bad (κ v) := by cases v <;> rfl
theorem haK_ok {v : V} {κ : V → FR} (h : v.pv = some v.av → Agr (κ v) q) : Agr (haK v κ) q := by rw [haK_eq]; exact vK_ok (P := fun r => Agr r q) q.bad h
end

def Pv (S : List Nat) : Type := E S → ZH → (V → FR) → FR
def PvOK {S : List Nat} (op : AOp) (p : Pv S) : Prop := ∀ (e : E S) (x : Env) (H : ZH) (κ : V → FR) (q : Pr), H.ok → Rel S e x → (∀ w s, opv x H.heap op = some s → w.den s → Agr (κ w) q) → Agr (p e H κ) q

theorem pv_den {w : V} {a : AV} (h : w.pv = some a) : w.den (.v a) := (V.pv_sl h).2.2.2

/-! ### lists of operands -/
structure La (S : List Nat) where
  run : E S → (V → FR) → FR
noncomputable def argC (S : List Nat) : List Opd → La S
  | [] => ⟨fun _ κ => κ .nil⟩
  | o :: r => ⟨fun e κ => vK ((opd S o).run e) .bad ((argC S r).run e fun t => κ (.one ((opd S o).run e) t))⟩
theorem argC_ok {S : List Nat} {e : E S} {x : Env} (h : Rel S e x) {q : Pr} : ∀ (l : List Opd) {κ : V → FR}, (∀ w vs, allAV x l = some vs → w.cl = vs → Agr (κ w) q) → Agr ((argC S l).run e κ) q
  | [], κ, hk => hk .nil [] rfl rfl
  | o :: r, κ, hk => by
    refine vK_ok (P := fun r => Agr r q) q.bad fun hp => argC_ok h r fun t vs ht hc => hk _ (((opd S o).run e).av :: vs) ?_ (by simp only [V.cl, hc])
    simp only [allAV, opd_val h o _ hp, ht, Option.map_some]

/-! ### the operations -/
section
variable {S : List Nat}
noncomputable def pMv (x : Opd) : Pv S := (fun e _ κ => mvK (opn x) ((opd S x).run e) .bad κ)
theorem pMv_ok (x : Opd) : PvOK (S := S) (.mv x) (pMv x) := fun e xe H κ q _ h hk => by
  refine mvK_ok (P := fun r => Agr r q) (opd_dle h x) q.bad fun w hw hs => hk w _ ?_ hw
  simp only [opv]; exact hs
noncomputable def pPick (c a b : Opd) : Pv S := (fun e _ κ => bK ((opd S c).run e) .bad (haK ((opd S a).run e) κ) (haK ((opd S b).run e) κ))
theorem pPick_ok (c a b : Opd) : PvOK (S := S) (.pick c a b) (pPick c a b) := fun e xe H κ q _ h hk => by
  refine bK_ok (P := fun r => Agr r q) (opd_val h c) q.bad (fun hc => haK_ok fun hp => hk _ _ ?_ (pv_den hp)) (fun hc => haK_ok fun hp => hk _ _ ?_ (pv_den hp))
  · simp only [opv, hc, if_true, opd_val h a _ hp, Option.map_some]
  · simp only [opv, hc, Bool.false_eq_true, if_false, opd_val h b _ hp, Option.map_some]
noncomputable def pBin (op : BinOp) (a b : Opd) : Pv S := (fun e _ κ => binZ op ((opd S a).run e) ((opd S b).run e) κ)
theorem pBin_ok (op : BinOp) (a b : Opd) : PvOK (S := S) (.bin op a b) (pBin op a b) := fun e xe H κ q _ h hk => by
  refine binZ_ok op (opd_val h a) (opd_val h b) fun w r hr hp => hk w (.v r) ?_ (pv_den hp)
  simp only [bin2] at hr
  simp only [opv]
  split at hr
  · rename_i a' b' ha hb; rw [ha, hb]; simp only [hr, Option.map_some]
  · cases hr

noncomputable def allI (ks : List BK) : Bool := @List.rec BK (fun _ => Bool) true (fun k _ ih => @BK.rec (fun _ => Bool) false ih false k) ks
theorem allI_eq : ∀ {ks : List BK}, allI ks = true → ks = List.replicate ks.length .i
  | [], _ => rfl
  | .b :: ks, h => by cases h
  | .i :: ks, h => by
    have := allI_eq (ks := ks) h
    simp only [List.length_cons, List.replicate_succ]
    rw [← this]
  | .s :: ks, h => by cases h
theorem eqCells_digs (k : Nat) (hk : k ≠ 1) : ∀ l n n', eqCells (List.replicate l .i) (digs k l n) (digs k l n') = some (Nat.beq (n % 18446744073709551616 ^ l) (n' % 18446744073709551616 ^ l))
  | 0, n, n' => by simp [eqCells, digs, Nat.mod_one]
  | l + 1, n, n' => by
    have e1 : ∀ n, n % 18446744073709551616 ^ (l + 1) = n % 18446744073709551616 + 18446744073709551616 * (n / 18446744073709551616 % 18446744073709551616 ^ l) := fun n => by
      rw [Nat.pow_succ, Nat.mul_comm, Nat.mod_mul]
    have hc : eqCell .i (scal k (n % 18446744073709551616)) (scal k (n' % 18446744073709551616)) = some (Nat.beq (n % 18446744073709551616) (n' % 18446744073709551616)) := by
      match k, hk with
      | 0, _ =>
        simp only [scal, eqCell, if_true, beq_dec, Option.some.injEq]
        rw [Bool.eq_iff_iff]; simp; omega
      | k + 2, _ =>
        simp only [scal, eqCell, if_true, beq_dec, Option.some.injEq]
        rw [Bool.eq_iff_iff]; simp; omega
    simp only [digs, List.replicate_succ, eqCells, hc, beq_dec, e1]
    have h1 := Nat.mod_lt n (show 18446744073709551616 > 0 from by decide)
    have h2 := Nat.mod_lt n' (show 18446744073709551616 > 0 from by decide)
    by_cases h : n % 18446744073709551616 = n' % 18446744073709551616
    · simp only [h, decide_true, eqCells_digs k hk l, beq_dec, Option.some.injEq, decide_eq_decide]; omega
    · simp only [h, decide_false, Option.some.injEq]
      symm
      rw [decide_eq_false_iff_not]; omega
noncomputable def eqS (ks : List BK) (a b : V) (f : Bool → FR) : FR := @Option.rec Bool (fun _ => FR) .bad f (eqAV (.agg ks) (.agg a.cl) (.agg b.cl))
noncomputable def eqA (ks : List BK) (a b : V) (f : Bool → FR) : FR := clRec (eqS ks a b f) (fun _ _ _ => eqS ks a b f) (fun k l n t _ => clRec (eqS ks a b f) (fun _ _ _ => eqS ks a b f)
  (fun k' l' n' t' _ => ifB (allI ks) (eqS ks a b f) (ifB (Nat.beq (List.length ks) l) (eqS ks a b f) (ifB (Nat.beq l' l) (eqS ks a b f) (ifB (Nat.beq k k') (eqS ks a b f) (@Bool.rec (fun _ => FR)
    (clRec (clRec (f (Nat.beq (Nat.mod n (Nat.shiftLeft 1 (Nat.mul 64 l))) (Nat.mod n' (Nat.shiftLeft 1 (Nat.mul 64 l))))) (fun _ _ _ => eqS ks a b f) (fun _ _ _ _ _ => eqS ks a b f) t') (fun _ _ _ => eqS ks a b f) (fun _ _ _ _ _ => eqS ks a b f) t) (eqS ks a b f) (Nat.beq k 1)))))) b) a
theorem eqA_ok {q : Pr} {ks : List BK} {a b : V} {f : Bool → FR} (h : ∀ r, eqAV (.agg ks) (.agg a.cl) (.agg b.cl) = some r → Agr (f r) q) : Agr (eqA ks a b f) q := by
  have sl : Agr (eqS ks a b f) q := by
    simp only [eqS]
    cases hr : eqAV (.agg ks) (.agg a.cl) (.agg b.cl) with
    | none => exact q.bad
    | some r => exact h r hr
  revert h sl
  generalize hs : eqS ks a b f = s
  unfold eqA
  rw [hs]
  clear hs
  refine cl_cases (P := fun a => (∀ r, eqAV (.agg ks) (.agg a.cl) (.agg b.cl) = some r → Agr (f r) q) → Agr s q → Agr (clRec s (fun _ _ _ => s) (fun k l n t _ => clRec s (fun _ _ _ => s)
  (fun k' l' n' t' _ => ifB (allI ks) s (ifB (Nat.beq (List.length ks) l) s (ifB (Nat.beq l' l) s (ifB (Nat.beq k k') s (@Bool.rec (fun _ => FR)
    (clRec (clRec (f (Nat.beq (Nat.mod n (Nat.shiftLeft 1 (Nat.mul 64 l))) (Nat.mod n' (Nat.shiftLeft 1 (Nat.mul 64 l))))) (fun _ _ _ => s) (fun _ _ _ _ _ => s) t') (fun _ _ _ => s) (fun _ _ _ _ _ => s) t) s (Nat.beq k 1)))))) b) a) q) (fun _ _ _ _ sl => sl) (fun k l n t _ h sl => ?_) (fun v h0 _ _ sl => by rw [h0]; exact sl) a
  revert h
  refine cl_cases (P := fun b => (∀ r, eqAV (.agg ks) (.agg (V.run k l n t).cl) (.agg b.cl) = some r → Agr (f r) q) → Agr (clRec s (fun _ _ _ => s)
  (fun k' l' n' t' _ => ifB (allI ks) s (ifB (Nat.beq (List.length ks) l) s (ifB (Nat.beq l' l) s (ifB (Nat.beq k k') s (@Bool.rec (fun _ => FR)
    (clRec (clRec (f (Nat.beq (Nat.mod n (Nat.shiftLeft 1 (Nat.mul 64 l))) (Nat.mod n' (Nat.shiftLeft 1 (Nat.mul 64 l))))) (fun _ _ _ => s) (fun _ _ _ _ _ => s) t') (fun _ _ _ => s) (fun _ _ _ _ _ => s) t) s (Nat.beq k 1)))))) b) q) (fun _ _ _ _ => sl) (fun k' l' n' t' _ h => ?_) (fun v h0 _ _ => by rw [h0]; exact sl) b
  show Agr (ifB (allI ks) s (ifB (Nat.beq (List.length ks) l) s (ifB (Nat.beq l' l) s (ifB (Nat.beq k k') s (@Bool.rec (fun _ => FR)
    (clRec (clRec (f (Nat.beq (Nat.mod n (Nat.shiftLeft 1 (Nat.mul 64 l))) (Nat.mod n' (Nat.shiftLeft 1 (Nat.mul 64 l))))) (fun _ _ _ => s) (fun _ _ _ _ _ => s) t') (fun _ _ _ => s) (fun _ _ _ _ _ => s) t) s (Nat.beq k 1)))))) q
  refine ifB_ok (P := fun r => Agr r q) sl fun hI => ?_
  rw [ifB_beq, ifB_beq, ifB_beq]
  by_cases h1 : ks.length = l
  · by_cases h2 : l' = l
    · by_cases h3 : k = k'
      · rw [if_pos h1, if_pos h2, if_pos h3]
        subst h2 h3
        cases hk : Nat.beq k 1 with
        | true => exact sl
        | false =>
          have hk' := Nat.ne_of_beq_eq_false hk
          revert h
          refine cl_cases (P := fun t => (∀ r, eqAV (.agg ks) (.agg (V.run k l' n t).cl) (.agg (V.run k l' n' t').cl) = some r → Agr (f r) q) → Agr (clRec (clRec (f (Nat.beq (Nat.mod n (Nat.shiftLeft 1 (Nat.mul 64 l'))) (Nat.mod n' (Nat.shiftLeft 1 (Nat.mul 64 l'))))) (fun _ _ _ => s) (fun _ _ _ _ _ => s) t') (fun _ _ _ => s) (fun _ _ _ _ _ => s) t) q) (fun _ _ _ _ => sl) (fun _ _ _ _ _ _ => sl) (fun v h0 hv h => ?_) t
          rw [h0]
          revert h
          refine cl_cases (P := fun t' => (∀ r, eqAV (.agg ks) (.agg (V.run k l' n v).cl) (.agg (V.run k l' n' t').cl) = some r → Agr (f r) q) → Agr (clRec (f (Nat.beq (Nat.mod n (Nat.shiftLeft 1 (Nat.mul 64 l'))) (Nat.mod n' (Nat.shiftLeft 1 (Nat.mul 64 l'))))) (fun _ _ _ => s) (fun _ _ _ _ _ => s) t') q) (fun _ _ _ _ => sl) (fun _ _ _ _ _ _ => sl) (fun v' h0' hv' h => ?_) t'
          rw [h0']
          refine h _ ?_
          simp only [eqAV, V.cl, hv, hv', List.append_nil, digs_length, h1, and_self, if_true]
          rw [allI_eq hI, h1, eqCells_digs k hk', shl_pow, Nat.one_mul]; rfl
      · rw [if_pos h1, if_pos h2, if_neg h3]; exact sl
    · rw [if_pos h1, if_neg h2]; exact sl
  · rw [if_neg h1]; exact sl

noncomputable def xorB (neg : Bool) (r : Bool) : Bool := @Bool.rec (fun _ => Bool) r (zNot r) neg
theorem xorB_eq (neg r : Bool) : xorB neg r = (r != neg) := by cases neg <;> cases r <;> rfl
noncomputable def nilF (x : FR) (c : V) : FR := clRec x (fun _ _ _ => .bad) (fun _ _ _ _ _ => .bad) c
theorem nilF_ok {q : Pr} {x : FR} {c : V} (h : c.cl = [] → Agr x q) : Agr (nilF x c) q := by
  refine cl_cases (P := fun c => (c.cl = [] → Agr x q) → Agr (nilF x c) q) (fun _ _ _ _ => q.bad) (fun _ _ _ _ _ _ => q.bad) (fun v h0 h1 h => ?_) c h
  have : nilF x v = x := h0 _ _ _
  rw [this]; exact h h1
noncomputable def eqZ (neg : Bool) (k : EqK) (a b : V) (κ : V → FR) : FR := @EqK.rec (fun _ => FR)
  (boK a .bad fun x => boK b .bad fun y => κ (.b (xorB neg (@Bool.rec (fun _ => Bool) (zNot y) y x))))
  (fun ks => agK a .bad fun c => agK b .bad fun c' => eqA ks c c' fun r => κ (.b (xorB neg r)))
  (npK a .bad (npK b .bad (κ (.b (xorB neg true))) (κ (.b (xorB neg false)))) (npK b .bad (κ (.b (xorB neg false))) .bad))
  (slcK' b .bad (fun nl c => @Bool.rec (fun _ => FR) .bad (nilF (slcK' a .bad (fun n _ => κ (.b (xorB neg n))) (κ (.b (xorB neg false))) fun _ _ _ _ => .bad) c) nl) .bad fun _ _ _ _ => .bad)
  (nfK b .bad (nfK a .bad (κ (.b (xorB neg true))) (κ (.b (xorB neg false)))) .bad)
  (fcK b .bad (fun _ _ => .bad) (fcK a .bad (fun _ _ => κ (.b (xorB neg false))) (κ (.b (xorB neg true)))))
  .bad k
theorem eqZ_ok {q : Pr} (neg : Bool) (k : EqK) {a b : V} {ra rb : Option AV} (ha : a.val ra) (hb : b.val rb) {κ : V → FR}
    (h : ∀ u w r, ra = some u → rb = some w → eqAV k u w = some r → Agr (κ (.b (xorB neg r))) q) : Agr (eqZ neg k a b κ) q := by
  cases k with
  | bool =>
    refine boK_ok (P := fun r => Agr r q) ha q.bad fun x hx => boK_ok (P := fun r => Agr r q) hb q.bad fun y hy => ?_
    have := h _ _ (x == y) hx hy rfl
    cases x <;> cases y <;> exact this
  | agg ks =>
    refine agK_ok (P := fun r => Agr r q) ha q.bad fun c hc => agK_ok (P := fun r => Agr r q) hb q.bad fun c' hc' => eqA_ok fun r hr => h _ _ r hc hc' hr
  | ptr =>
    refine npK_ok (P := fun r => Agr r q) ha q.bad (fun hx => npK_ok (P := fun r => Agr r q) hb q.bad (fun hy => h _ _ true hx hy rfl) (fun hy => ?_)) (fun hx => npK_ok (P := fun r => Agr r q) hb q.bad (fun hy => ?_) (fun _ => q.bad))
    · rcases hy with ⟨_, hy⟩ | ⟨_, _, hy⟩ | ⟨_, _, _, _, hy⟩ <;> exact h _ _ false hx hy rfl
    · rcases hx with ⟨_, hx⟩ | ⟨_, _, hx⟩ | ⟨_, _, _, _, hx⟩ <;> exact h _ _ false hx hy rfl
  | slice =>
    refine slcK'_ok (P := fun r => Agr r q) hb q.bad (fun nl c hc => ?_) (fun _ => q.bad) (fun _ _ _ _ _ => q.bad)
    cases nl with
    | false => exact q.bad
    | true =>
      refine nilF_ok fun he => ?_
      rw [he] at hc
      exact slcK'_ok (P := fun r => Agr r q) ha q.bad (fun n c' hc' => h _ _ n hc' hc rfl) (fun hc' => h _ _ false hc' hc rfl) (fun _ _ _ _ _ => q.bad)
  | fn =>
    refine nfK_ok (P := fun r => Agr r q) hb q.bad (fun hy => nfK_ok (P := fun r => Agr r q) ha q.bad (fun hx => h _ _ true hx hy rfl) (fun ⟨_, _, hx⟩ => h _ _ false hx hy rfl)) (fun _ => q.bad)
  | iface =>
    refine fcK_ok (P := fun r => Agr r q) hb q.bad (fun _ _ _ => q.bad) (fun hy => fcK_ok (P := fun r => Agr r q) ha q.bad (fun _ _ hx => h _ _ false hx hy rfl) (fun hx => h _ _ true hx hy rfl))
  | map => exact q.bad
noncomputable def pEq (neg : Bool) (k : EqK) (a b : Opd) : Pv S := (fun e _ κ => eqZ neg k ((opd S a).run e) ((opd S b).run e) κ)
theorem pEq_ok (neg : Bool) (k : EqK) (a b : Opd) : PvOK (S := S) (.eq neg k a b) (pEq neg k a b) := fun e xe H κ q _ h hk => by
  refine eqZ_ok neg k (opd_val h a) (opd_val h b) fun u w r hu hw hr => hk _ (.v (.bool (r != neg))) ?_ ?_
  · simp only [opv, hu, hw, hr, Option.map_some]
  · rw [xorB_eq]; rfl

/-! numbers -/
noncomputable def slowU (op : UnOp) (a : V) (κ : V → FR) : FR := vK a .bad (@Option.rec AV (fun _ => FR) .bad (fun r => κ (ofAV r)) (unAV op a.av))
theorem slowU_ok {q : Pr} {op : UnOp} {a : V} {ra : Option AV} (ha : a.val ra) {κ : V → FR} (h : ∀ u, ra = some u → Ans κ q (unAV op u)) : Agr (slowU op a κ) q := by
  refine vK_ok (P := fun r => Agr r q) q.bad fun h1 => ?_
  have h' := h _ (ha _ h1)
  cases hr : unAV op a.av with
  | none => exact q.bad
  | some r => exact h' _ _ hr (ofAV_pv r).1
noncomputable def unZ (op : UnOp) (a : V) (κ : V → FR) : FR := @UnOp.rec (fun _ => FR) (slowU .neg a κ) (slowU .xor a κ) (boK a .bad fun x => κ (.b (zNot x))) (slowU .plus a κ) op
noncomputable def pUn (op : UnOp) (a : Opd) : Pv S := (fun e _ κ => unZ op ((opd S a).run e) κ)
theorem pUn_ok (op : UnOp) (a : Opd) : PvOK (S := S) (.un op a) (pUn op a) := fun e xe H κ q _ h hk => by
  have hs : ∀ u, xe.av a = some u → Ans κ q (unAV op u) := fun u hu w r hr hp => hk w (.v r) (by simp only [opv, hu, hr, Option.map_some]) (pv_den hp)
  have ha := opd_val h a
  cases op <;> first
    | exact slowU_ok ha hs
    | exact boK_ok (P := fun r => Agr r q) ha q.bad fun x hx => hs _ hx (.b (zNot x)) _ rfl (by rw [zNot_eq]; rfl)

noncomputable def slowC (k : IntKind) (a : V) (κ : V → FR) : FR := vK a .bad (@Option.rec Int (fun _ => FR) .bad (fun r => κ (ofAV (.int k (k.wrap r)))) (getI a.av))
def kcd (k : IntKind) : Nat := match k with
  | .i64 => 0
  | .u8 => 2
  | .u16 => 3
  | .u32 => 4
  | .u64 => 5
  | _ => 1
theorem kcd_eq {k : IntKind} {c : Nat} (h : kcd k = c + 2) : k = kk c := by
  cases k <;> simp only [kcd] at h <;> first | (obtain rfl : c = 0 := (by omega); rfl) | (obtain rfl : c = 1 := (by omega); rfl) | (obtain rfl : c = 2 := (by omega); rfl) | (obtain rfl : c = 3 := (by omega); rfl) | omega
noncomputable def cviZ (k : IntKind) (c : Nat) (a : V) (κ : V → FR) : FR := @Nat.rec (fun _ => FR)
  (numK a (slowC k a κ) (fun n => ifB (Nat.ble n 18446744073709551615) (slowC k a κ) (κ (.i n))) (fun _ n => ifB (Nat.ble n 9223372036854775807) (slowC k a κ) (κ (.i (Nat.add n 9223372036854775808)))) (fun _ _ => slowC k a κ))
  (fun c1 _ => @Nat.rec (fun _ => FR) (slowC k a κ)
    (fun c2 _ => numK a (slowC k a κ) (fun n => ifB (Nat.ble 9223372036854775808 n) (slowC k a κ) (κ (.u c2 (Nat.mod (Nat.sub n 9223372036854775808) (mK c2))))) (fun _ n => κ (.u c2 (Nat.mod n (mK c2)))) (fun _ _ => slowC k a κ)) c1) c
noncomputable def pCvi (k : IntKind) (a : Opd) : Pv S := (fun e _ κ => cviZ k (kcd k) ((opd S a).run e) κ)
theorem pCvi_ok (k : IntKind) (a : Opd) : PvOK (S := S) (.cvi k a) (pCvi k a) := fun e xe H κ q _ h hk => by
  have ha := opd_val h a
  have hs : ∀ k' n, xe.av a = some (.int k' n) → Ans κ q (some (.int k (k.wrap n))) := fun k' n hu w r hr hp => hk w (.v r) (by simp only [opv, hu]; simp only [Option.some.injEq] at hr; rw [hr]) (pv_den hp)
  have sl : Agr (slowC k ((opd S a).run e) κ) q := by
    refine vK_ok (P := fun r => Agr r q) q.bad fun h1 => ?_
    have h2 := ha _ h1
    revert h2
    generalize ((opd S a).run e).av = u
    intro h2
    cases u <;> try exact q.bad
    exact hs _ _ h2 _ _ rfl (ofAV_pv _).1
  show Agr (cviZ k (kcd k) ((opd S a).run e) κ) q
  match hc : kcd k with
  | 0 =>
    obtain rfl : k = .i64 := by cases k <;> simp [kcd] at hc; rfl
    refine numK_ok (P := fun r => Agr r q) ha sl (fun n hn => ?_) (fun k' n hn => ?_) (fun _ _ _ => sl)
    · rw [ifB_ble]
      split
      · rename_i h1
        have h1' : n ≤ 18446744073709551615 := h1
        refine hs _ _ hn (.i n) _ rfl ?_
        rw [wrap64 (by omega) (by omega)]; rfl
      · exact sl
    · rw [ifB_ble]
      split
      · rename_i h1
        refine hs _ _ hn (.i _) _ rfl ?_
        have h1' : n ≤ 9223372036854775807 := h1
        rw [wrap64 (by omega) (by omega)]
        simp only [V.pv, V.av, Option.some.injEq, AV.int.injEq, true_and]
        show (((n + 9223372036854775808 : Nat) : Int) - 9223372036854775808) = n
        omega
      · exact sl
  | 1 => exact sl
  | c + 2 =>
    obtain rfl := kcd_eq hc
    refine numK_ok (P := fun r => Agr r q) ha sl (fun n hn => ?_) (fun k' n hn => hs _ _ hn (.u c _) _ rfl ?_) (fun _ _ _ => sl)
    · rw [ifB_ble]
      split
      · rename_i h1
        refine hs _ _ hn (.u c _) _ rfl ?_
        obtain ⟨u, rfl⟩ := Nat.exists_eq_add_of_le h1
        have e1 : Nat.sub (9223372036854775808 + u) 9223372036854775808 = u := Nat.add_sub_cancel_left ..
        have e3 : (((9223372036854775808 + u : Nat) : Int) - 9223372036854775808) = (u : Int) := by omega
        rw [e1, e3, wrapUn]; rfl
      · exact sl
    · rw [wrapUn]; rfl
end
end Ey

namespace Ey
open Go (IntKind FloatKind BinOp UnOp)

section
variable {S : List Nat}
/-! ### reads -/
noncomputable def lvR (S : List Nat) (s : Nat) (e : E S) (d : FR) (f : V → FR) : FR := lvK' ((acc S s).run e) d f
theorem lvR_ok {q : Pr} {e : E S} {x : Env} (h : Rel S e x) {s : Nat} {d : FR} {f : V → FR} (hd : Agr d q) (hf : ∀ c, x.get s = .lv c.cl → Agr (f c) q) : Agr (lvR S s e d f) q := by
  refine lvK'_ok (P := fun r => Agr r q) (s := x.get s) ?_ hd hf
  rw [acc_eq]; exact h s
noncomputable def ldZ (S : List Nat) (sz : Nat) (ag : Bool) (n : Nat) (v : V) (e : E S) (H : ZH) (κ : V → FR) : FR := adK n v .bad
  (fun s o => lvR S s e .bad fun c => paK sz ag c o .bad fun w => haK w κ)
  (fun y => ncK y .bad fun m => ifB (Nat.beq m sz) .bad (peK sz ag y 0 .bad fun w => haK w κ))
  (fun i o => obK i .bad (fun c => paK sz ag c o .bad fun w => haK w κ) H.bl)
  (fun i ver j o => arK i .bad (fun _ _ len c => ifB (Nat.beq len ver) .bad (nthZ .bad (fun y => peK sz ag y o .bad fun w => haK w κ) c j)) H.bl)
theorem ldZ_ok {q : Pr} {e : E S} {x : Env} (h : Rel S e x) {H : ZH} (hH : H.ok) {sz : Nat} {ag : Bool} {n : Nat} {v : V} {s : Sl} (hv : v.dle n s) {κ : V → FR}
    (hk : ∀ w, ldS x H.heap sz ag s = some w.av → w.pv = some w.av → Agr (κ w) q) : Agr (ldZ S sz ag n v e H κ) q := by
  refine adK_ok (P := fun r => Agr r q) hv q.bad (fun t o hs => lvR_ok h q.bad fun c hc => paK_ok (P := fun r => Agr r q) q.bad fun w hw => haK_ok fun hp => hk w ?_ hp)
    (fun y hs => ncK_ok (P := fun r => Agr r q) q.bad fun hy => ?_)
    (fun i o hs => obK_ok (P := fun r => Agr r q) q.bad _ hH fun c hc => paK_ok (P := fun r => Agr r q) q.bad fun w hw => haK_ok fun hp => hk w ?_ hp)
    (fun i ver j o hs => arK_ok (P := fun r => Agr r q) q.bad _ hH fun nl z c hc => ?_)
  · rw [hs]; simp only [ldS, hc, hw]
  · rw [ifB_beq]
    split
    · rename_i hl
      refine peK_ok (P := fun r => Agr r q) q.bad fun w hy hw => haK_ok fun hp => hk w ?_ hp
      rw [hs]; simp only [ldS, hl, if_true, hw]
    · exact q.bad
  · rw [hs]
    have : H.heap.get i = some (.obj c.cl) := hc
    simp only [ldS, this, hw]
  · rw [ifB_beq]
    split
    · rename_i hl
      refine nthZ_ok (P := fun r => Agr r q) q.bad c j fun y hy => peK_ok (P := fun r => Agr r q) q.bad fun w hyp hw => haK_ok fun hp => hk w ?_ hp
      rw [hs]
      have : H.heap.get i = some (.arr nl z c.cl) := hc
      simp only [ldS, this, hl, if_true, hy, hw]
    · exact q.bad
noncomputable def pLd (sz : Nat) (ag : Bool) (a : Opd) : Pv S := (fun e H κ => ldZ S sz ag (opn a) ((opd S a).run e) e H κ)
theorem pLd_ok (sz : Nat) (ag : Bool) (a : Opd) : PvOK (S := S) (.ld sz ag a) (pLd sz ag a) := fun e xe H κ q hH h hk => by
  refine ldZ_ok h hH (opd_dle h a) fun w hw hp => hk w (.v w.av) ?_ (pv_den hp)
  simp only [opv, hw, Option.map_some]
noncomputable def pLdl (sz : Nat) (ag : Bool) (s : Nat) : Pv S := (fun e _ κ => lvR S s e .bad fun c => paK sz ag c 0 .bad fun w => haK w κ)
theorem pLdl_ok (sz : Nat) (ag : Bool) (s : Nat) : PvOK (S := S) (.ldl sz ag s) (pLdl sz ag s) := fun e xe H κ q hH h hk => by
  refine lvR_ok h q.bad fun c hc => paK_ok (P := fun r => Agr r q) q.bad fun w hw => haK_ok fun hp => hk w (.v w.av) ?_ (pv_den hp)
  simp only [opv, hc, hw, Option.map_some]
noncomputable def qLdic : V → Nat → Bool → (V → FR) → FR := @V.rec (fun _ => Nat → Bool → (V → FR) → FR) (fun _ _ _ _ => .bad) (fun _ _ _ _ => .bad) (fun _ _ _ _ _ => .bad) (fun _ _ _ _ _ => .bad) (fun _ _ _ _ => .bad) (fun _ _ _ _ _ _ => .bad) (fun _ _ _ => .bad) (fun _ _ _ _ _ _ _ => .bad) (fun y _ sz ag κ => ncK y .bad fun m => ifB (Nat.beq m sz) .bad (peK sz ag y 0 .bad fun w => haK w κ)) (fun _ _ _ => .bad) (fun _ _ _ _ _ => .bad) (fun _ _ _ _ _ _ _ => .bad) (fun _ _ _ _ _ _ => .bad) (fun _ _ _ => .bad) (fun _ _ _ _ _ _ => .bad) (fun _ _ _ => .bad) (fun _ _ _ _ _ => .bad) (fun _ _ _ _ _ => .bad) (fun _ _ _ => .bad) (fun _ _ _ _ _ _ _ => .bad) (fun _ _ _ _ _ _ _ _ => .bad) (fun _ _ _ => .bad) (fun _ _ _ => .bad) (fun _ _ _ => .bad) (fun _ _ _ _ _ => .bad) (fun _ _ _ _ _ => .bad)
noncomputable def qLdi (sz : Nat) (ag : Bool) (_ : Nat) (a : V) (κ : V → FR) : FR := qLdic a sz ag κ
theorem qLdi_eq (sz : Nat) (ag : Bool) (n : Nat) (a : V) (κ : V → FR) : qLdi sz ag n a κ = (adK n a .bad (fun _ _ => .bad)
  (fun y => ncK y .bad fun m => ifB (Nat.beq m sz) .bad (peK sz ag y 0 .bad fun w => haK w κ)) (fun _ _ => .bad) (fun _ _ _ _ => .bad)) := by cases a <;> rfl
noncomputable def pLdi (sz : Nat) (ag : Bool) (a : Opd) : Pv S := (fun e _ κ => qLdi sz ag (opn a) ((opd S a).run e) κ)
theorem pLdi_ok (sz : Nat) (ag : Bool) (a : Opd) : PvOK (S := S) (.ldi sz ag a) (pLdi sz ag a) := fun e xe H κ q hH h hk => by
  show Agr (qLdi sz ag (opn a) ((opd S a).run e) κ) q
  rw [qLdi_eq]
  refine adK_ok (P := fun r => Agr r q) (opd_dle h a) q.bad (fun _ _ _ => q.bad) (fun y hs => ncK_ok (P := fun r => Agr r q) q.bad fun hy => ?_) (fun _ _ _ => q.bad) (fun _ _ _ _ _ => q.bad)
  rw [ifB_beq]
  split
  · rename_i hl
    refine peK_ok (P := fun r => Agr r q) q.bad fun w hy hw => haK_ok fun hp => hk w (.v w.av) ?_ (pv_den hp)
    simp only [opv, hs, hl, if_true, hw, Option.map_some]
  · exact q.bad
noncomputable def pLdp (sz : Nat) (ag : Bool) (a : Opd) : Pv S := (fun e _ κ => adK (opn a) ((opd S a).run e) .bad (fun s o => lvR S s e .bad fun c => paK sz ag c o .bad fun w => haK w κ) (fun _ => .bad) (fun _ _ => .bad) (fun _ _ _ _ => .bad))
theorem pLdp_ok (sz : Nat) (ag : Bool) (a : Opd) : PvOK (S := S) (.ldp sz ag a) (pLdp sz ag a) := fun e xe H κ q hH h hk => by
  show Agr (adK (opn a) ((opd S a).run e) .bad (fun s o => lvR S s e .bad fun c => paK sz ag c o .bad fun w => haK w κ) (fun _ => .bad) (fun _ _ => .bad) (fun _ _ _ _ => .bad)) q
  refine adK_ok (P := fun r => Agr r q) (opd_dle h a) q.bad (fun t o hs => lvR_ok h q.bad fun c hc => paK_ok (P := fun r => Agr r q) q.bad fun w hw => haK_ok fun hp => hk w (.v w.av) ?_ (pv_den hp)) (fun _ _ => q.bad) (fun _ _ _ => q.bad) (fun _ _ _ _ _ => q.bad)
  simp only [opv, hs, ldS, hc, hw, Option.map_some]
noncomputable def qLdoc : V → Nat → Bool → ZH → (V → FR) → FR := @V.rec (fun _ => Nat → Bool → ZH → (V → FR) → FR) (fun _ _ _ _ _ => .bad) (fun _ _ _ _ _ => .bad) (fun _ _ _ _ _ _ => .bad) (fun _ _ _ _ _ _ => .bad) (fun _ _ _ _ _ => .bad) (fun _ _ _ _ _ _ _ => .bad) (fun _ _ _ _ => .bad) (fun _ _ _ _ _ _ _ _ => .bad) (fun _ _ _ _ _ _ => .bad) (fun _ _ _ _ => .bad) (fun i o sz ag H κ => ifB (Nat.ble (Nat.succ i) H.next) .bad (obK i .bad (fun c => paK sz ag c o .bad fun w => haK w κ) H.bl)) (fun _ _ _ _ _ _ _ _ => .bad) (fun _ _ _ _ _ _ _ => .bad) (fun _ _ _ _ => .bad) (fun _ _ _ _ _ _ _ => .bad) (fun _ _ _ _ => .bad) (fun _ _ _ _ _ _ => .bad) (fun _ _ _ _ _ _ => .bad) (fun _ _ _ _ => .bad) (fun _ _ _ _ _ _ _ _ => .bad) (fun _ _ _ _ _ _ _ _ _ => .bad) (fun _ _ _ _ => .bad) (fun _ _ _ _ => .bad) (fun _ _ _ _ => .bad) (fun _ _ _ _ _ _ => .bad) (fun _ _ _ _ _ _ => .bad)
noncomputable def qLdo (sz : Nat) (ag : Bool) (_ : Nat) (a : V) (H : ZH) (κ : V → FR) : FR := qLdoc a sz ag H κ
theorem qLdo_eq (sz : Nat) (ag : Bool) (n : Nat) (a : V) (H : ZH) (κ : V → FR) : qLdo sz ag n a H κ = (adK n a .bad (fun _ _ => .bad) (fun _ => .bad)
  (fun i o => ifB (Nat.ble (Nat.succ i) H.next) .bad (obK i .bad (fun c => paK sz ag c o .bad fun w => haK w κ) H.bl)) (fun _ _ _ _ => .bad)) := by cases a <;> rfl
noncomputable def pLdo (sz : Nat) (ag : Bool) (a : Opd) : Pv S := (fun e H κ => qLdo sz ag (opn a) ((opd S a).run e) H κ)
theorem pLdo_ok (sz : Nat) (ag : Bool) (a : Opd) : PvOK (S := S) (.ldo sz ag a) (pLdo sz ag a) := fun e xe H κ q hH h hk => by
  show Agr (qLdo sz ag (opn a) ((opd S a).run e) H κ) q
  rw [qLdo_eq]
  refine adK_ok (P := fun r => Agr r q) (opd_dle h a) q.bad (fun _ _ _ => q.bad) (fun _ _ => q.bad) (fun i o hs => ?_) (fun _ _ _ _ _ => q.bad)
  rw [ifB_ble]
  split
  · rename_i hn
    refine obK_ok (P := fun r => Agr r q) q.bad _ hH fun c hc => paK_ok (P := fun r => Agr r q) q.bad fun w hw => haK_ok fun hp => hk w (.v w.av) ?_ (pv_den hp)
    have h1 : H.heap.get i = some (.obj c.cl) := hc
    have h2 : i < H.heap.next := hn
    simp only [opv, hs, h2, if_true, ldS, h1, hw, Option.map_some]
  · exact q.bad

/-! ### addresses -/
noncomputable def adZc : V → Nat → Nat → Bool → Nat → (V → FR) → FR := @V.rec (fun _ => Nat → Nat → Bool → Nat → (V → FR) → FR) (fun _ _ _ _ _ _ => .bad) (fun _ _ _ _ _ _ => .bad) (fun _ _ _ _ _ _ _ => .bad) (fun _ _ _ _ _ _ _ => .bad) (fun _ _ _ _ _ _ => .bad) (fun _ _ _ _ _ _ _ _ => .bad) (fun _ _ _ _ _ => .bad) (fun _ _ _ _ _ _ _ _ _ => .bad) (fun y _ off sz ag _ κ => peK sz ag y off .bad fun w => κ (.im w)) (fun _ _ _ _ _ => .bad) (fun i o off _ _ _ κ => κ (.pt i (Nat.add o off))) (fun i ver j o off _ _ _ κ => κ (.ap i ver j (Nat.add o off))) (fun _ _ _ _ _ _ _ _ => .bad) (fun _ _ _ _ _ => .bad) (fun _ _ _ _ _ _ _ _ => .bad) (fun _ _ _ _ _ => .bad) (fun _ _ _ _ _ _ _ => .bad) (fun _ _ _ _ _ _ _ => .bad) (fun _ _ _ _ _ => .bad) (fun _ _ _ _ _ _ _ _ _ => .bad) (fun _ _ _ _ _ _ _ _ _ _ => .bad) (fun _ _ _ _ _ => .bad) (fun _ _ _ _ _ => .bad) (fun _ _ _ _ _ => .bad) (fun _ _ off _ _ n κ => κ (.lp n (Nat.add 0 off))) (fun s o off _ _ _ κ => κ (.lp s (Nat.add o off)))
noncomputable def adZ (off sz : Nat) (ag : Bool) (n : Nat) (v : V) (κ : V → FR) : FR := adZc v off sz ag n κ
theorem adZ_eq (off sz : Nat) (ag : Bool) (n : Nat) (v : V) (κ : V → FR) : adZ off sz ag n v κ = adK n v .bad (fun s o => κ (.lp s (Nat.add o off))) (fun y => peK sz ag y off .bad fun w => κ (.im w))
  (fun i o => κ (.pt i (Nat.add o off))) (fun i ver j o => κ (.ap i ver j (Nat.add o off))) := by cases v <;> rfl
theorem adZ_ok {q : Pr} {off sz : Nat} {ag : Bool} {n : Nat} {v : V} {s : Sl} (hv : v.dle n s) {κ : V → FR} (hk : ∀ w t, addrS off sz ag s = some t → w.den t → Agr (κ w) q) : Agr (adZ off sz ag n v κ) q := by
  rw [adZ_eq]
  refine adK_ok (P := fun r => Agr r q) hv q.bad (fun t o hs => hk _ _ (by rw [hs]; rfl) rfl) (fun y hs => peK_ok (P := fun r => Agr r q) q.bad fun w hy hw => hk (.im w) (.v (.imm w.av)) ?_ rfl) (fun i o hs => hk _ _ (by rw [hs]; rfl) rfl) (fun i w j o hs => hk _ _ (by rw [hs]; rfl) rfl)
  rw [hs]; simp only [addrS, hw, Option.map_some]
noncomputable def pFa (off sz : Nat) (ag : Bool) (a : Opd) : Pv S := (fun e _ κ => adZ off sz ag (opn a) ((opd S a).run e) κ)
theorem pFa_ok (off sz : Nat) (ag : Bool) (a : Opd) : PvOK (S := S) (.fa off sz ag a) (pFa off sz ag a) := fun e xe H κ q hH h hk =>
  adZ_ok (opd_dle h a) fun w t ht hw => hk w t (by simp only [opv, ht]) hw
noncomputable def pIa (n sz : Nat) (ag : Bool) (a i : Opd) : Pv S := (fun e _ κ => idZ ((opd S i).run e) n .bad fun j => adZ (Nat.mul j sz) sz ag (opn a) ((opd S a).run e) κ)
theorem pIa_ok (n sz : Nat) (ag : Bool) (a i : Opd) : PvOK (S := S) (.ia n sz ag a i) (pIa n sz ag a i) := fun e xe H κ q hH h hk => by
  show Agr (idZ ((opd S i).run e) n .bad fun j => adZ (Nat.mul j sz) sz ag (opn a) ((opd S a).run e) κ) q
  refine idZ_ok (opd_val h i) q.bad fun k j hj hl => adZ_ok (opd_dle h a) fun w t ht hw => hk w t ?_ hw
  simp only [opv, hj]
  rw [if_pos ⟨by omega, by omega⟩]
  exact ht
noncomputable def ixF (sz : Nat) (c : V) (j : Nat) (κ : V → FR) : FR := nthZ .bad (fun y => ncK y .bad fun m => ifB (Nat.beq m sz) .bad (κ (.im y))) c j
theorem ixF_ok {q : Pr} {sz : Nat} {c : V} {j : Nat} {κ : V → FR} (h : ∀ y : V, c.cl[j]? = some y.av → y.av.cells.length = sz → Agr (κ (.im y)) q) : Agr (ixF sz c j κ) q := by
  refine nthZ_ok (P := fun r => Agr r q) q.bad c j fun y hy => ncK_ok (P := fun r => Agr r q) q.bad fun _ => ?_
  rw [ifB_beq]
  split
  · rename_i hl; exact h y hy hl
  · exact q.bad
noncomputable def qIxc : V → V → Nat → ZH → (V → FR) → FR := @V.rec (fun _ => V → Nat → ZH → (V → FR) → FR) (fun _ _ _ _ _ => .bad) (fun _ _ _ _ _ => .bad) (fun _ _ _ _ _ _ => .bad) (fun _ _ _ _ _ _ => .bad) (fun _ _ _ _ _ => .bad) (fun _ c _ i sz _ κ => nnZ i .bad fun j => ixF sz c j κ) (fun _ _ _ _ => .bad) (fun id ver lo len i sz H κ => idZ i len .bad fun j => arK id .bad (fun _ z _ _ => ifB (Nat.beq z sz) .bad (κ (.ap id ver (Nat.add lo j) 0))) H.bl) (fun _ _ _ _ _ _ => .bad) (fun _ _ _ _ => .bad) (fun _ _ _ _ _ _ => .bad) (fun _ _ _ _ _ _ _ _ => .bad) (fun _ _ _ _ _ _ _ => .bad) (fun _ _ _ _ => .bad) (fun _ _ _ _ _ _ _ => .bad) (fun _ _ _ _ => .bad) (fun _ _ _ _ _ _ => .bad) (fun _ _ _ _ _ _ => .bad) (fun _ _ _ _ => .bad) (fun _ _ _ _ _ _ _ _ => .bad) (fun _ _ _ _ _ _ _ _ _ => .bad) (fun _ _ _ _ => .bad) (fun _ _ _ _ => .bad) (fun _ _ _ _ => .bad) (fun _ _ _ _ _ _ => .bad) (fun _ _ _ _ _ _ => .bad)
noncomputable def qIx (sz : Nat) (x i : V) (H : ZH) (κ : V → FR) : FR := qIxc x i sz H κ
theorem qIx_eq (sz : Nat) (x i : V) (H : ZH) (κ : V → FR) : qIx sz x i H κ = (slcK' x .bad (fun _ c => nnZ i .bad fun j => ixF sz c j κ) .bad
  fun id ver lo len => idZ i len .bad fun j => arK id .bad (fun _ z _ _ => ifB (Nat.beq z sz) .bad (κ (.ap id ver (Nat.add lo j) 0))) H.bl) := by cases x <;> rfl
noncomputable def pIx (sz : Nat) (x i : Opd) : Pv S := (fun e H κ => qIx sz ((opd S x).run e) ((opd S i).run e) H κ)
theorem pIx_ok (sz : Nat) (x i : Opd) : PvOK (S := S) (.ix sz x i) (pIx sz x i) := fun e xe H κ q hH h hk => by
  show Agr (qIx sz ((opd S x).run e) ((opd S i).run e) H κ) q
  rw [qIx_eq]
  refine slcK'_ok (P := fun r => Agr r q) (opd_val h x) q.bad (fun nl c hc => nnZ_ok (opd_val h i) q.bad fun k j hj => ixF_ok fun y hy hl => hk (.im y) (.v (.imm y.av)) ?_ rfl) (fun _ => q.bad)
    (fun id ver lo len hm => idZ_ok (opd_val h i) q.bad fun k j hj hl => arK_ok (P := fun r => Agr r q) q.bad _ hH fun nl z c hc => ?_)
  · simp only [opv, hc, hj]
    rw [if_pos (by omega)]
    simp only [Int.toNat_natCast, hy, hl, if_true]
  · rw [ifB_beq]
    split
    · rename_i hz
      refine hk (.ap id ver (lo + j) 0) _ ?_ rfl
      have h1 : H.heap.get id = some (.arr nl z c.cl) := hc
      simp only [opv, hm, hj]
      rw [if_pos ⟨by omega, by omega⟩]
      simp only [h1, hz, if_true, Int.toNat_natCast]; rfl
    · exact q.bad
noncomputable def qIxlc : V → V → Nat → (V → FR) → FR := @V.rec (fun _ => V → Nat → (V → FR) → FR) (fun _ _ _ _ => .bad) (fun _ _ _ _ => .bad) (fun _ _ _ _ _ => .bad) (fun _ _ _ _ _ => .bad) (fun _ _ _ _ => .bad) (fun _ c _ i sz κ => nnZ i .bad fun j => ixF sz c j κ) (fun _ _ _ => .bad) (fun _ _ _ _ _ _ _ => .bad) (fun _ _ _ _ _ => .bad) (fun _ _ _ => .bad) (fun _ _ _ _ _ => .bad) (fun _ _ _ _ _ _ _ => .bad) (fun _ _ _ _ _ _ => .bad) (fun _ _ _ => .bad) (fun _ _ _ _ _ _ => .bad) (fun _ _ _ => .bad) (fun _ _ _ _ _ => .bad) (fun _ _ _ _ _ => .bad) (fun _ _ _ => .bad) (fun _ _ _ _ _ _ _ => .bad) (fun _ _ _ _ _ _ _ _ => .bad) (fun _ _ _ => .bad) (fun _ _ _ => .bad) (fun _ _ _ => .bad) (fun _ _ _ _ _ => .bad) (fun _ _ _ _ _ => .bad)
noncomputable def qIxl (sz : Nat) (x i : V) (κ : V → FR) : FR := qIxlc x i sz κ
theorem qIxl_eq (sz : Nat) (x i : V) (κ : V → FR) : qIxl sz x i κ = (slcK' x .bad (fun _ c => nnZ i .bad fun j => ixF sz c j κ) .bad fun _ _ _ _ => .bad) := by cases x <;> rfl
noncomputable def pIxl (sz : Nat) (x i : Opd) : Pv S := (fun e _ κ => qIxl sz ((opd S x).run e) ((opd S i).run e) κ)
theorem pIxl_ok (sz : Nat) (x i : Opd) : PvOK (S := S) (.ixl sz x i) (pIxl sz x i) := fun e xe H κ q hH h hk => by
  show Agr (qIxl sz ((opd S x).run e) ((opd S i).run e) κ) q
  rw [qIxl_eq]
  refine slcK'_ok (P := fun r => Agr r q) (opd_val h x) q.bad (fun nl c hc => nnZ_ok (opd_val h i) q.bad fun k j hj => ixF_ok fun y hy hl => hk (.im y) (.v (.imm y.av)) ?_ rfl) (fun _ => q.bad) (fun _ _ _ _ _ => q.bad)
  simp only [opv, hc, hj]
  rw [if_pos (by omega)]
  simp only [Int.toNat_natCast, hy, hl, if_true]
noncomputable def qFldc : V → Nat → Nat → Bool → (V → FR) → FR := @V.rec (fun _ => Nat → Nat → Bool → (V → FR) → FR) (fun _ _ _ _ _ => .bad) (fun _ _ _ _ _ => .bad) (fun _ _ _ _ _ _ => .bad) (fun _ _ _ _ _ _ => .bad) (fun _ _ _ _ _ => .bad) (fun _ _ _ _ _ _ _ => .bad) (fun _ _ _ _ => .bad) (fun _ _ _ _ _ _ _ _ => .bad) (fun _ _ _ _ _ _ => .bad) (fun _ _ _ _ => .bad) (fun _ _ _ _ _ _ => .bad) (fun _ _ _ _ _ _ _ _ => .bad) (fun _ _ _ _ _ _ _ => .bad) (fun _ _ _ _ => .bad) (fun _ _ _ _ _ _ _ => .bad) (fun _ _ _ _ => .bad) (fun c _ off sz ag κ => paK sz ag c off .bad fun w => haK w κ) (fun _ _ _ _ _ _ => .bad) (fun _ _ _ _ => .bad) (fun _ _ _ _ _ _ _ _ => .bad) (fun _ _ _ _ _ _ _ _ _ => .bad) (fun _ _ _ _ => .bad) (fun _ _ _ _ => .bad) (fun _ _ _ _ => .bad) (fun _ _ _ _ _ _ => .bad) (fun _ _ _ _ _ _ => .bad)
noncomputable def qFld (off sz : Nat) (ag : Bool) (x : V) (κ : V → FR) : FR := qFldc x off sz ag κ
theorem qFld_eq (off sz : Nat) (ag : Bool) (x : V) (κ : V → FR) : qFld off sz ag x κ = (agK x .bad fun c => paK sz ag c off .bad fun w => haK w κ) := by cases x <;> rfl
noncomputable def pFld (off sz : Nat) (ag : Bool) (x : Opd) : Pv S := (fun e _ κ => qFld off sz ag ((opd S x).run e) κ)
theorem pFld_ok (off sz : Nat) (ag : Bool) (x : Opd) : PvOK (S := S) (.fld off sz ag x) (pFld off sz ag x) := fun e xe H κ q hH h hk => by
  show Agr (qFld off sz ag ((opd S x).run e) κ) q
  rw [qFld_eq]
  refine agK_ok (P := fun r => Agr r q) (opd_val h x) q.bad fun c hc => paK_ok (P := fun r => Agr r q) q.bad fun w hw => haK_ok fun hp => hk w (.v w.av) ?_ (pv_den hp)
  simp only [opv, hc, hw, Option.map_some]
noncomputable def pIxa (n sz : Nat) (ag : Bool) (x i : Opd) : Pv S := (fun e _ κ => agK ((opd S x).run e) .bad fun c => idZ ((opd S i).run e) n .bad fun j => paK sz ag c (Nat.mul j sz) .bad fun w => haK w κ)
theorem pIxa_ok (n sz : Nat) (ag : Bool) (x i : Opd) : PvOK (S := S) (.ixa n sz ag x i) (pIxa n sz ag x i) := fun e xe H κ q hH h hk => by
  refine agK_ok (P := fun r => Agr r q) (opd_val h x) q.bad fun c hc => idZ_ok (opd_val h i) q.bad fun k j hj hl => paK_ok (P := fun r => Agr r q) q.bad fun w hw => haK_ok fun hp => hk w (.v w.av) ?_ (pv_den hp)
  simp only [opv, hc, hj]
  rw [if_pos ⟨by omega, by omega⟩]
  show (part sz ag c.cl ((j : Int).toNat * sz)).map Sl.v = _
  rw [Int.toNat_natCast, show j * sz = Nat.mul j sz from rfl, hw]; rfl
theorem byts_get : ∀ l n j, (byts l n)[j]? = if j < l then some (UInt8.ofNat (Nat.shiftRight n (Nat.mul 8 j) % 256)) else none
  | 0, n, j => by simp [byts]
  | l + 1, n, 0 => by
    rw [shr8]; simp [byts]
  | l + 1, n, j + 1 => by
    simp only [byts, List.getElem?_cons_succ, byts_get l, shr8, Nat.pow_succ]
    rw [Nat.mul_comm (256 ^ j), ← Nat.div_div_eq_div_mul]
    by_cases h : j < l
    · rw [if_pos h, if_pos (by omega)]
    · rw [if_neg h, if_neg (by omega)]
noncomputable def qIxsc : V → V → (V → FR) → FR := @V.rec (fun _ => V → (V → FR) → FR) (fun _ _ _ => .bad) (fun _ _ _ => .bad) (fun _ _ _ _ => .bad) (fun l n i κ => idZ i l .bad fun j => κ (.u 0 (Nat.mod (Nat.shiftRight n (Nat.mul 8 j)) 256))) (fun _ _ _ => .bad) (fun _ _ _ _ _ => .bad) (fun _ _ => .bad) (fun _ _ _ _ _ _ => .bad) (fun _ _ _ _ => .bad) (fun _ _ => .bad) (fun _ _ _ _ => .bad) (fun _ _ _ _ _ _ => .bad) (fun _ _ _ _ _ => .bad) (fun _ _ => .bad) (fun _ _ _ _ _ => .bad) (fun _ _ => .bad) (fun _ _ _ _ => .bad) (fun _ _ _ _ => .bad) (fun _ _ => .bad) (fun _ _ _ _ _ _ => .bad) (fun _ _ _ _ _ _ _ => .bad) (fun _ _ => .bad) (fun _ _ => .bad) (fun _ _ => .bad) (fun _ _ _ _ => .bad) (fun _ _ _ _ => .bad)
noncomputable def qIxs (x i : V) (κ : V → FR) : FR := qIxsc x i κ
theorem qIxs_eq (x i : V) (κ : V → FR) : qIxs x i κ = (sK x .bad fun l n => idZ i l .bad fun j => κ (.u 0 (Nat.mod (Nat.shiftRight n (Nat.mul 8 j)) 256))) := by cases x <;> rfl
noncomputable def pIxs (x i : Opd) : Pv S := (fun e _ κ => qIxs ((opd S x).run e) ((opd S i).run e) κ)
theorem pIxs_ok (x i : Opd) : PvOK (S := S) (.ixs x i) (pIxs x i) := fun e xe H κ q hH h hk => by
  show Agr (qIxs ((opd S x).run e) ((opd S i).run e) κ) q
  rw [qIxs_eq]
  refine sK_ok (P := fun r => Agr r q) (opd_val h x) q.bad fun l n hs => idZ_ok (opd_val h i) q.bad fun k j hj hl => hk (.u 0 _) (.v _) ?_ rfl
  simp only [opv, hs, hj]
  rw [if_pos (by omega)]
  have e1 : (UInt8.ofNat (Nat.shiftRight n (Nat.mul 8 j) % 256)).toNat = Nat.mod (Nat.shiftRight n (Nat.mul 8 j)) 256 := by
    show _ = Nat.shiftRight n (Nat.mul 8 j) % 256
    simp
  simp only [Int.toNat_natCast, byts_get, hl, if_true, e1]; rfl
theorem toIB (n B : Nat) : AV.int .i64 (((Nat.add n B : Nat) : Int) - (B : Int)) = i64 n := by
  have : ((Nat.add n B : Nat) : Int) - (B : Int) = n := by
    show ((n + B : Nat) : Int) - (B : Int) = n
    omega
  rw [this]; rfl
theorem toI (n : Nat) : V.av (.i (Nat.add n 9223372036854775808)) = i64 n := toIB n 9223372036854775808
noncomputable def qLenc : V → (V → FR) → FR := @V.rec (fun _ => (V → FR) → FR) (fun _ _ => .bad) (fun _ _ => .bad) (fun _ _ _ => .bad) (fun _ _ _ => .bad) (fun _ _ => .bad) (fun _ c _ κ => κ (.i (Nat.add (lenC c) 9223372036854775808))) (fun κ => κ (.i 9223372036854775808)) (fun _ _ _ len κ => κ (.i (Nat.add len 9223372036854775808))) (fun _ _ _ => .bad) (fun _ => .bad) (fun _ _ _ => .bad) (fun _ _ _ _ _ => .bad) (fun _ _ _ _ => .bad) (fun _ => .bad) (fun _ _ _ _ => .bad) (fun _ => .bad) (fun _ _ _ => .bad) (fun _ _ _ => .bad) (fun _ => .bad) (fun _ _ _ _ _ => .bad) (fun _ _ _ _ _ _ => .bad) (fun _ => .bad) (fun _ => .bad) (fun _ => .bad) (fun _ _ _ => .bad) (fun _ _ _ => .bad)
noncomputable def qLen (x : V) (κ : V → FR) : FR := qLenc x κ
theorem qLen_eq (x : V) (κ : V → FR) : qLen x κ = (slcK' x .bad (fun _ c => κ (.i (Nat.add (lenC c) 9223372036854775808))) (κ (.i 9223372036854775808)) fun _ _ _ len => κ (.i (Nat.add len 9223372036854775808))) := by cases x <;> rfl
noncomputable def pLen (x : Opd) : Pv S := (fun e _ κ => qLen ((opd S x).run e) κ)
theorem pLen_ok (x : Opd) : PvOK (S := S) (.len x) (pLen x) := fun e xe H κ q hH h hk => by
  show Agr (qLen ((opd S x).run e) κ) q
  rw [qLen_eq]
  refine slcK'_ok (P := fun r => Agr r q) (opd_val h x) q.bad (fun nl c hc => hk (.i _) (.v (i64 c.cl.length)) ?_ ?_) (fun hc => hk (.i _) (.v (i64 0)) ?_ rfl) (fun id ver lo len hc => hk (.i _) (.v (i64 len)) ?_ ?_)
  · simp only [opv, hc, lenAV, Option.map_some]
  · show Sl.v (i64 _) = Sl.v (V.av _); rw [lenC_eq, toI]
  · simp only [opv, hc, lenAV, Option.map_some]; rfl
  · simp only [opv, hc, lenAV, Option.map_some]
  · show Sl.v (i64 _) = Sl.v (V.av _); rw [toI]
noncomputable def qLnsc : V → (V → FR) → FR := @V.rec (fun _ => (V → FR) → FR) (fun _ _ => .bad) (fun _ _ => .bad) (fun _ _ _ => .bad) (fun l _ κ => κ (.i (Nat.add l 9223372036854775808))) (fun _ _ => .bad) (fun _ _ _ _ => .bad) (fun _ => .bad) (fun _ _ _ _ _ => .bad) (fun _ _ _ => .bad) (fun _ => .bad) (fun _ _ _ => .bad) (fun _ _ _ _ _ => .bad) (fun _ _ _ _ => .bad) (fun _ => .bad) (fun _ _ _ _ => .bad) (fun _ => .bad) (fun _ _ _ => .bad) (fun _ _ _ => .bad) (fun _ => .bad) (fun _ _ _ _ _ => .bad) (fun _ _ _ _ _ _ => .bad) (fun _ => .bad) (fun _ => .bad) (fun _ => .bad) (fun _ _ _ => .bad) (fun _ _ _ => .bad)
noncomputable def qLns (x : V) (κ : V → FR) : FR := qLnsc x κ
theorem qLns_eq (x : V) (κ : V → FR) : qLns x κ = (sK x .bad fun l _ => κ (.i (Nat.add l 9223372036854775808))) := by cases x <;> rfl
noncomputable def pLns (x : Opd) : Pv S := (fun e _ κ => qLns ((opd S x).run e) κ)
theorem pLns_ok (x : Opd) : PvOK (S := S) (.lns x) (pLns x) := fun e xe H κ q hH h hk => by
  show Agr (qLns ((opd S x).run e) κ) q
  rw [qLns_eq]
  refine sK_ok (P := fun r => Agr r q) (opd_val h x) q.bad fun l n hs => hk (.i _) (.v (i64 l)) ?_ ?_
  · simp only [opv, hs, byts_length]
  · show Sl.v (i64 _) = Sl.v (V.av _); rw [toI]
noncomputable def pCap (x : Opd) : Pv S := (fun e _ κ => slcK' ((opd S x).run e) .bad (fun nl c => @Bool.rec (fun _ => FR) .bad (nilF (κ (.i 9223372036854775808)) c) nl) (κ (.i 9223372036854775808)) fun _ _ _ _ => .bad)
theorem pCap_ok (x : Opd) : PvOK (S := S) (.cap x) (pCap x) := fun e xe H κ q hH h hk => by
  refine slcK'_ok (P := fun r => Agr r q) (opd_val h x) q.bad (fun nl c hc => ?_) (fun hc => hk (.i _) (.v (i64 0)) (by simp only [opv, hc]) rfl) (fun _ _ _ _ _ => q.bad)
  cases nl with
  | false => exact q.bad
  | true =>
    refine nilF_ok fun he => ?_
    rw [he] at hc
    exact hk (.i _) (.v (i64 0)) (by simp only [opv, hc]) rfl

/-! ### slices -/
noncomputable def boZ (S : List Nat) (b : Option Opd) (z : Nat) (e : E S) (f : Nat → FR) : FR := @Option.rec Opd (fun _ => FR) (f z) (fun o => nnZ ((opd S o).run e) .bad f) b
noncomputable def bnZ (S : List Nat) (lo hi : Option Opd) (len : Nat) (e : E S) (f : Nat → Nat → FR) : FR := boZ S hi len e fun h => boZ S lo 0 e fun l => ifB (Nat.ble l h) .bad (ifB (Nat.ble h len) .bad (f l h))
def bndV (z : Int) (v : Option AV) : Option Int := match v with
  | none => some z
  | some v => getI v
theorem boZ_ok {q : Pr} {e : E S} {x : Env} (h : Rel S e x) {b : Option Opd} {z : Nat} {f : Nat → FR} (hf : ∀ (n : Nat) v, optAV x b = some v → bndV z v = some (n : Int) → Agr (f n) q) : Agr (boZ S b z e f) q := by
  cases b with
  | none => exact hf z none rfl rfl
  | some o =>
    refine nnZ_ok (opd_val h o) q.bad fun k n hn => hf n (some (.int k n)) ?_ rfl
    simp only [optAV, hn, Option.map_some]
theorem slB {len l u : Nat} {vl vh : Option AV} (hu : bndV len vh = some (u : Int)) (hl : bndV (0 : Nat) vl = some (l : Int)) (h1 : l ≤ u) (h2 : u ≤ len) : slBounds len vl vh = some (l, u) := by
  have e : slBounds len vl vh = match bndV len vh with
    | none => none
    | some h => match bndV (0 : Nat) vl with
      | none => none
      | some l => if 0 ≤ l ∧ l ≤ h ∧ h ≤ len then some (l.toNat, h.toNat) else none := by
    cases vl <;> cases vh <;> rfl
  rw [e, hu, hl]
  simp only
  rw [if_pos ⟨by omega, by omega, by omega⟩]
  simp
theorem bnZ_ok {q : Pr} {e : E S} {x : Env} (h : Rel S e x) {lo hi : Option Opd} {len : Nat} {f : Nat → Nat → FR}
    (hf : ∀ (l u : Nat) vl vh, optAV x lo = some vl → optAV x hi = some vh → slBounds len vl vh = some (l, u) → l ≤ u → u ≤ len → Agr (f l u) q) : Agr (bnZ S lo hi len e f) q := by
  refine boZ_ok h fun u vh hvh hu => boZ_ok h fun l vl hvl hl => ?_
  rw [ifB_ble, ifB_ble]
  split
  · rename_i h1
    split
    · rename_i h2
      exact hf l u vl vh hvl hvh (slB hu hl h1 h2) h1 h2
    · exact q.bad
  · exact q.bad
noncomputable def pSl (sz : Nat) (x : Opd) (lo hi mx : Option Opd) : Pv S := (fun e H κ => @Option.rec Opd (fun _ => FR)
  (slcK' ((opd S x).run e) .bad (fun n c => ifB (allC sz c) .bad (bnZ S lo hi (lenC c) e fun l h => κ (.li n (takeC (dropC c l) (Nat.sub h l))))) (bnZ S lo hi 0 e fun _ _ => κ .c0)
    fun id ver a len => arK id .bad (fun _ z _ _ => ifB (Nat.beq z sz) .bad (bnZ S lo hi len e fun l h => κ (.ms id ver (Nat.add a l) (Nat.sub h l)))) H.bl)
  (fun m => @Option.rec Opd (fun _ => FR) (iK ((opd S m).run e) .bad fun mn => ifB (Nat.beq mn 9223372036854775808) .bad (@Option.rec Opd (fun _ => FR) .bad (fun h => iK ((opd S h).run e) .bad fun hn => ifB (Nat.beq hn 9223372036854775808) .bad
    (slcK' ((opd S x).run e) .bad (fun n _ => @Bool.rec (fun _ => FR) (κ .c0) (κ (.li true .nil)) n) (κ .c0) fun _ _ _ _ => .bad)) hi)) (fun _ => .bad) lo) mx)
theorem pSl_ok (sz : Nat) (x : Opd) (lo hi mx : Option Opd) : PvOK (S := S) (.sl sz x lo hi mx) (pSl sz x lo hi mx) := fun e xe H κ q hH h hk => by
  cases mx with
  | none =>
    refine slcK'_ok (P := fun r => Agr r q) (opd_val h x) q.bad (fun n c hc => ifB_ok (P := fun r => Agr r q) q.bad fun ha => bnZ_ok h fun l u vl vh hl hu hb _ _ => hk (.li n _) (.v _) ?_ rfl)
      (fun hc => bnZ_ok h fun l u vl vh hl hu hb _ _ => hk .c0 (.v .cap0) ?_ rfl) (fun id ver a len hc => arK_ok (P := fun r => Agr r q) q.bad _ hH fun nl z c hz => ?_)
    · rw [lenC_eq] at hb
      simp only [opv, hc, hl, hu, show optAV xe none = some none from rfl, slAV, allC_ok sz c ha, if_true, hb, Option.map_some]
      simp only [V.av, takeC_eq, dropC_eq]; rfl
    · simp only [opv, hc, hl, hu, show optAV xe none = some none from rfl, slAV, hb, Option.map_some]
    · rw [ifB_beq]
      split
      · rename_i h1
        refine bnZ_ok h fun l u vl vh hl hu hb _ _ => hk (.ms id ver _ _) (.v _) ?_ rfl
        have h2 : H.heap.get id = some (.arr nl z c.cl) := hz
        simp only [opv, hc, hl, hu, show optAV xe none = some none from rfl, slAV, h2, h1, if_true, hb, Option.map_some]; rfl
      · exact q.bad
  | some m =>
    cases lo with
    | some _ => exact q.bad
    | none =>
      refine iK_ok (P := fun r => Agr r q) (opd_val h m) q.bad fun mn hm => ?_
      rw [ifB_beq]
      split
      · rename_i h1
        subst h1
        cases hi with
        | none => exact q.bad
        | some hi =>
          refine iK_ok (P := fun r => Agr r q) (opd_val h hi) q.bad fun hn hh => ?_
          rw [ifB_beq]
          split
          · rename_i h1
            subst h1
            have z : (((9223372036854775808 : Nat) : Int) - 9223372036854775808) = 0 := by decide
            rw [z] at hm hh
            refine slcK'_ok (P := fun r => Agr r q) (opd_val h x) q.bad (fun n c hc => ?_) (fun hc => hk .c0 (.v .cap0) ?_ rfl) (fun _ _ _ _ _ => q.bad)
            · cases n with
              | false => exact hk .c0 (.v .cap0) (by simp only [opv, hc, hm, hh, optAV, slAV, Option.map_some]; rfl) rfl
              | true => exact hk (.li true .nil) (.v (.list true [])) (by simp only [opv, hc, hm, hh, optAV, slAV, Option.map_some]; rfl) rfl
            · simp only [opv, hc, hm, hh, optAV, slAV, Option.map_some]
          · exact q.bad
      · exact q.bad
theorem byts_drop : ∀ m l n, (byts l n).drop m = byts (l - m) (Nat.shiftRight n (Nat.mul 8 m))
  | 0, l, n => by rw [shr8]; simp
  | m + 1, 0, n => by simp [byts]
  | m + 1, l + 1, n => by
    simp only [byts, List.drop_succ_cons]
    rw [byts_drop m l, shr8, shr8, Nat.pow_succ, Nat.mul_comm (256 ^ m), Nat.div_div_eq_div_mul]
    congr 1
    omega
theorem byts_take : ∀ m l n, (byts l n).take m = byts (min m l) n
  | 0, l, n => by simp [byts]
  | m + 1, 0, n => by simp [byts]
  | m + 1, l + 1, n => by
    simp only [byts, List.take_succ_cons, byts_take m l]
    rw [show min (m + 1) (l + 1) = min m l + 1 from by omega]
    rfl
noncomputable def pSs (x : Opd) (lo hi : Option Opd) : Pv S := (fun e _ κ => sK ((opd S x).run e) .bad fun len n => bnZ S lo hi len e fun l h => κ (.s (Nat.sub h l) (Nat.shiftRight n (Nat.mul 8 l))))
theorem pSs_ok (x : Opd) (lo hi : Option Opd) : PvOK (S := S) (.ss x lo hi) (pSs x lo hi) := fun e xe H κ q hH h hk => by
  refine sK_ok (P := fun r => Agr r q) (opd_val h x) q.bad fun len n hs => bnZ_ok h fun l u vl vh hl hu hb h1 h2 => hk (.s _ _) (.v _) ?_ rfl
  simp only [opv, hs, hl, hu, byts_length, hb, Option.map_some]
  rw [byts_drop, byts_take, Nat.min_eq_left (by omega)]; rfl

/-! ### tuples, interfaces, function values, minimum and maximum -/
noncomputable def qExtc : V → Nat → (V → FR) → FR := @V.rec (fun _ => Nat → (V → FR) → FR) (fun _ _ _ => .bad) (fun _ _ _ => .bad) (fun _ _ _ _ => .bad) (fun _ _ _ _ => .bad) (fun _ _ _ => .bad) (fun _ _ _ _ _ => .bad) (fun _ _ => .bad) (fun _ _ _ _ _ _ => .bad) (fun _ _ _ _ => .bad) (fun _ _ => .bad) (fun _ _ _ _ => .bad) (fun _ _ _ _ _ _ => .bad) (fun _ _ _ _ _ => .bad) (fun _ _ => .bad) (fun _ _ _ _ _ => .bad) (fun _ _ => .bad) (fun _ _ _ _ => .bad) (fun c _ i κ => nthZ .bad (fun w => haK w κ) c i) (fun _ _ => .bad) (fun _ _ _ _ _ _ => .bad) (fun _ _ _ _ _ _ _ => .bad) (fun _ _ => .bad) (fun _ _ => .bad) (fun _ _ => .bad) (fun _ _ _ _ => .bad) (fun _ _ _ _ => .bad)
noncomputable def qExt (i : Nat) (x : V) (κ : V → FR) : FR := qExtc x i κ
theorem qExt_eq (i : Nat) (x : V) (κ : V → FR) : qExt i x κ = (tuK x .bad fun c => nthZ .bad (fun w => haK w κ) c i) := by cases x <;> rfl
noncomputable def pExt (i : Nat) (x : Opd) : Pv S := (fun e _ κ => qExt i ((opd S x).run e) κ)
theorem pExt_ok (i : Nat) (x : Opd) : PvOK (S := S) (.ext i x) (pExt i x) := fun e xe H κ q hH h hk => by
  show Agr (qExt i ((opd S x).run e) κ) q
  rw [qExt_eq]
  refine tuK_ok (P := fun r => Agr r q) (opd_val h x) q.bad fun c hc => nthZ_ok (P := fun r => Agr r q) q.bad c i fun w hw => haK_ok fun hp => hk w (.v w.av) ?_ (pv_den hp)
  simp only [opv, hc, hw, Option.map_some]
noncomputable def pMkif (t : Nat) (x : Opd) : Pv S := (fun e _ κ => haK ((opd S x).run e) fun v => κ (.fc t v))
theorem pMkif_ok (t : Nat) (x : Opd) : PvOK (S := S) (.mkif t x) (pMkif t x) := fun e xe H κ q hH h hk => by
  refine haK_ok (v := (opd S x).run e) (κ := fun v => κ (.fc t v)) fun hp => hk (.fc t ((opd S x).run e)) (.v _) ?_ rfl
  simp only [opv, opd_val h x _ hp]; rfl
noncomputable def pTas (t : Nat) (z : AV) (ok : Bool) (x : Opd) : Pv S := (fun e _ κ => fcK ((opd S x).run e) .bad
  (fun t' v => ifB (Nat.beq t' t) (@Bool.rec (fun _ => FR) .bad (κ (.tu (.one (ofAV z) (.one (.b false) .nil)))) ok) (haK v fun v => @Bool.rec (fun _ => FR) (κ v) (κ (.tu (.one v (.one (.b true) .nil)))) ok))
  (@Bool.rec (fun _ => FR) .bad (κ (.tu (.one (ofAV z) (.one (.b false) .nil)))) ok))
theorem pTas_ok (t : Nat) (z : AV) (ok : Bool) (x : Opd) : PvOK (S := S) (.tas t z ok x) (pTas t z ok x) := fun e xe H κ q hH h hk => by
  have hzav := (ofAV_pv z).2
  refine fcK_ok (P := fun r => Agr r q) (opd_val h x) q.bad (fun t' v hv => ?_) (fun hz => ?_)
  · rw [ifB_beq]
    split
    · rename_i ht
      refine haK_ok fun hp => ?_
      cases ok with
      | false => exact hk v (.v v.av) (by simp only [opv, hv, ht, if_true]; rfl) (pv_den hp)
      | true => exact hk (.tu _) (.v (.tup [v.av, .bool true])) (by simp only [opv, hv, ht, if_true]) rfl
    · rename_i ht
      cases ok with
      | false => exact q.bad
      | true => exact hk (.tu _) (.v (.tup [z, .bool false])) (by simp only [opv, hv, ht, if_false, if_true]) (by show Sl.v _ = Sl.v (.tup [(ofAV z).av, .bool false]); rw [hzav])
  · cases ok with
    | false => exact q.bad
    | true => exact hk (.tu _) (.v (.tup [z, .bool false])) (by simp only [opv, hz, if_true]) (by show Sl.v _ = Sl.v (.tup [(ofAV z).av, .bool false]); rw [hzav])
noncomputable def pMkfn (f : Nat) (cap : List Opd) : Pv S := (fun e _ κ => (argC S cap).run e fun c => κ (.fn f c))
theorem pMkfn_ok (f : Nat) (cap : List Opd) : PvOK (S := S) (.mkfn f cap) (pMkfn f cap) := fun e xe H κ q hH h hk =>
  argC_ok h cap fun w vs hvs hc => hk (.fn f w) (.v (.fn f vs)) (by simp only [opv, hvs]) (by show Sl.v _ = Sl.v (.fn f w.cl); rw [hc])
noncomputable def pNilc (x : Opd) : Pv S := (fun e _ κ => ncmK (opn x) ((opd S x).run e) .bad κ)
theorem pNilc_ok (x : Opd) : PvOK (S := S) (.nilc x) (pNilc x) := fun e xe H κ q hH h hk => by
  refine ncmK_ok (P := fun r => Agr r q) (opd_dle h x) q.bad fun w hw hs => hk w _ ?_ hw
  simp only [opv]; exact hs
noncomputable def mmN (mx : Bool) (a b : Nat) : Nat := ifB (Nat.ble a b) (@Bool.rec (fun _ => Nat) b a mx) (@Bool.rec (fun _ => Nat) a b mx)
theorem mmN_eq (mx : Bool) (a b : Nat) : mmN mx a b = if mx then max a b else min a b := by
  simp only [mmN, ifB_ble]
  cases mx <;> by_cases hab : a ≤ b
  · rw [if_pos hab]; simp; omega
  · rw [if_neg hab]; simp; omega
  · rw [if_pos hab]; simp; omega
  · rw [if_neg hab]; simp; omega
theorem mmI (mx : Bool) (a b : Nat) (B : Int) : ((mmN mx a b : Nat) : Int) - B = if mx then max ((a : Int) - B) ((b : Int) - B) else min ((a : Int) - B) ((b : Int) - B) := by
  rw [mmN_eq]; cases mx <;> simp <;> omega
noncomputable def pMnmx (mx : Bool) (x y : Opd) : Pv S := (fun e _ κ => numK ((opd S x).run e) .bad (fun a => iK ((opd S y).run e) .bad fun b => κ (.i (mmN mx a b)))
  (fun k a => uK ((opd S y).run e) .bad fun k' b => ifB (Nat.beq k k') .bad (κ (.u k (mmN mx a b)))) (fun _ _ => .bad))
theorem pMnmx_ok (mx : Bool) (x y : Opd) : PvOK (S := S) (.mnmx mx x y) (pMnmx mx x y) := fun e xe H κ q hH h hk => by
  refine numK_ok (P := fun r => Agr r q) (opd_val h x) q.bad (fun a ha => iK_ok (P := fun r => Agr r q) (opd_val h y) q.bad fun b hb => hk (.i _) (.v _) ?_ rfl)
    (fun k a ha => uK_ok (P := fun r => Agr r q) (opd_val h y) q.bad fun k' b hb => ?_) (fun _ _ _ => q.bad)
  · simp only [opv, ha, hb, if_true, V.av, mmI]
  · rw [ifB_beq]
    split
    · rename_i hk'
      subst hk'
      refine hk (.u k _) (.v _) ?_ rfl
      have := mmI mx a b 0
      simp only [Int.sub_zero] at this
      simp only [opv, ha, hb, if_true, V.av, this]
    · exact q.bad
noncomputable def pBim (sz : Nat) (x : Opd) : Pv S := (fun e _ κ => ncK ((opd S x).run e) .bad fun m => ifB (Nat.beq m sz) .bad (κ (.im ((opd S x).run e))))
theorem pBim_ok (sz : Nat) (x : Opd) : PvOK (S := S) (.bim sz x) (pBim sz x) := fun e xe H κ q hH h hk => by
  show Agr (ncK ((opd S x).run e) .bad fun m => ifB (Nat.beq m sz) .bad (κ (.im ((opd S x).run e)))) q
  refine ncK_ok (P := fun r => Agr r q) q.bad fun hp => ?_
  rw [ifB_beq]
  split
  · rename_i hl
    refine hk (.im _) (.v _) ?_ rfl
    simp only [opv, opd_val h x _ hp, hl, if_true]; rfl
  · exact q.bad
noncomputable def pSla (n : Nat) (a : Opd) (lo hi : Option Opd) : Pv S := (fun e _ κ => imK ((opd S a).run e) .bad fun y => ceK y .bad fun c => ifB (Nat.beq (lenC c) n) .bad (bnZ S lo hi n e fun l h => κ (.li false (takeC (dropC c l) (Nat.sub h l)))))
theorem pSla_ok (n : Nat) (a : Opd) (lo hi : Option Opd) : PvOK (S := S) (.sla n a lo hi) (pSla n a lo hi) := fun e xe H κ q hH h hk => by
  refine imK_ok (P := fun r => Agr r q) (opd_val h a) q.bad fun y hy => ceK_ok (P := fun r => Agr r q) q.bad fun c hp hc => ?_
  rw [ifB_beq, lenC_eq]
  split
  · rename_i hl
    rw [hc] at hl
    refine bnZ_ok h fun l u vl vh hl' hu hb _ _ => hk (.li false _) (.v _) ?_ rfl
    simp only [opv, hy, hl', hu, hl, if_true, hb, Option.map_some]
    simp only [V.av, takeC_eq, dropC_eq, hc]; rfl
  · exact q.bad
noncomputable def pSt0 (a v : Opd) : Pv S := (fun e _ κ => adK (opn a) ((opd S a).run e) .bad (fun _ _ => agK ((opd S v).run e) .bad fun c => nilF (κ .un) c) (fun _ => .bad) (fun _ _ => .bad) fun _ _ _ _ => .bad)
theorem pSt0_ok (a v : Opd) : PvOK (S := S) (.st0 a v) (pSt0 a v) := fun e xe H κ q hH h hk => by
  show Agr (adK (opn a) ((opd S a).run e) .bad (fun _ _ => agK ((opd S v).run e) .bad fun c => nilF (κ .un) c) (fun _ => .bad) (fun _ _ => .bad) fun _ _ _ _ => .bad) q
  refine adK_ok (P := fun r => Agr r q) (opd_dle h a) q.bad (fun t o hs => agK_ok (P := fun r => Agr r q) (opd_val h v) q.bad fun c hc => nilF_ok fun he => hk .un .un ?_ rfl) (fun _ _ => q.bad) (fun _ _ _ => q.bad) (fun _ _ _ _ _ => q.bad)
  rw [he] at hc
  simp only [opv, hs, hc]

/-! ### literals -/
structure Mk (S : List Nat) where
  run : E S → V → (V → FR) → FR
noncomputable def mkC (S : List Nat) (nz n : Nat) : List (Nat × Opd) → Mk S
  | [] => ⟨fun _ c κ => κ c⟩
  | (i, o) :: l => bif Nat.ble (Nat.succ i) n then ⟨fun e c κ => ncK ((opd S o).run e) .bad fun m => ifB (Nat.beq m nz) .bad (setK ((opd S o).run e) .bad c i fun c' => (mkC S nz n l).run e c' κ)⟩ else ⟨fun _ _ _ => .bad⟩
theorem mkC_ok {q : Pr} {nz n : Nat} {e : E S} {x : Env} (h : Rel S e x) : ∀ (l : List (Nat × Opd)) {c : V} {κ : V → FR}, (∀ y ∈ c.cl, y.cells.length = nz) → c.cl.length = n →
    (∀ w ps, allParts x l = some ps → mklAV c.cl ps = some w.cl → Agr (κ w) q) → Agr ((mkC S nz n l).run e c κ) q
  | [], c, κ, _, _, hk => hk c [] rfl rfl
  | (i, o) :: l, c, κ, hz, hn, hk => by
    simp only [mkC]
    cases hb : Nat.ble (Nat.succ i) n with
    | false => exact q.bad
    | true =>
      have h2 : i < n := Nat.le_of_ble_eq_true hb
      have h2' : i < c.cl.length := by rw [hn]; exact h2
      simp only [cond_true]
      refine ncK_ok (P := fun r => Agr r q) q.bad fun hp => ?_
      rw [ifB_beq]
      split
      · rename_i h1
        refine setK_ok _ q.bad c i _ fun c' _ hc' => mkC_ok h l (fun y hy => ?_) ?_ fun w ps hps hw => hk w ((i, ((opd S o).run e).av) :: ps) ?_ ?_
        · rw [hc'] at hy
          rcases List.mem_or_eq_of_mem_set hy with hy | hy
          · exact hz y hy
          · rw [hy]; exact h1
        · rw [hc', List.length_set]; exact hn
        · simp only [allParts, opd_val h o _ hp, hps, Option.map_some]
        · rw [hc'] at hw
          simp only [mklAV]
          rw [List.getElem?_eq_getElem h2']
          simp only
          rw [if_pos (by rw [hz _ (List.getElem_mem h2')]; exact h1)]
          exact hw
      · exact q.bad
noncomputable def pMkl (z : AV) (n : Nat) (ps : List (Nat × Opd)) : Pv S := (fun e _ κ => (mkC S z.cells.length n ps).run e (repC n (ofAV z)) fun c => κ (.li false c))
theorem pMkl_ok (z : AV) (n : Nat) (ps : List (Nat × Opd)) : PvOK (S := S) (.mkl z n ps) (pMkl z n ps) := fun e xe H κ q hH h hk => by
  have hc : (repC n (ofAV z)).cl = List.replicate n z := by rw [repC_eq, (ofAV_pv z).2]
  refine mkC_ok h ps (fun y hy => ?_) (by rw [hc, List.length_replicate]) fun w vs hvs hw => hk (.li false w) (.v _) ?_ rfl
  · rw [hc] at hy; rw [List.eq_of_mem_replicate hy]
  · rw [hc] at hw
    simp only [opv, hvs, hw, Option.map_some]; rfl
noncomputable def blC (S : List Nat) : List ((Nat × Nat) × Opd) → Mk S
  | [] => ⟨fun _ c κ => κ c⟩
  | ((off, sz), o) :: l => bif Nat.beq sz 1 then ⟨fun e c κ => onK ((opd S o).run e) .bad (setK ((opd S o).run e) .bad c off fun c' => (blC S l).run e c' κ)⟩
    else ⟨fun e c κ => wrK sz ((opd S o).run e) c off .bad fun c' => (blC S l).run e c' κ⟩
theorem blC_ok {q : Pr} {e : E S} {x : Env} (h : Rel S e x) : ∀ (l : List ((Nat × Nat) × Opd)) {c : V} {κ : V → FR},
    (∀ w ps, allParts x l = some ps → fillAV c.cl ps = some w.cl → Agr (κ w) q) → Agr ((blC S l).run e c κ) q
  | [], c, κ, hk => hk c [] rfl rfl
  | ((off, sz), o) :: l, c, κ, hk => by
    simp only [blC, beq_dec]
    by_cases h1 : sz = 1
    · subst h1
      simp only [decide_true, cond_true]
      refine onK_ok (P := fun r => Agr r q) q.bad fun hp h1 => setK_ok _ q.bad c off _ fun c' hl hc' => blC_ok h l fun u ps hps hu => hk u (((off, 1), ((opd S o).run e).av) :: ps) ?_ ?_
      · simp only [allParts, opd_val h o _ hp, hps, Option.map_some]
      · rw [hc', set_putAt hl] at hu
        simp only [fillAV, one_cells h1]
        rw [if_pos ⟨rfl, hl⟩]; exact hu
    · simp only [h1, decide_false, cond_false]
      refine wrK_ok q.bad fun w hp hs hl hw => blC_ok h l fun u ps hps hu => hk u (((off, sz), ((opd S o).run e).av) :: ps) ?_ ?_
      · simp only [allParts, opd_val h o _ hp, hps, Option.map_some]
      · rw [hw] at hu
        simp only [fillAV]
        rw [if_pos ⟨hs, hl⟩]; exact hu
noncomputable def pBld (z : AV) (ps : List ((Nat × Nat) × Opd)) : Pv S := (fun e _ κ => (blC S ps).run e (ofCs z.cells) fun c => κ (.ag c))
theorem pBld_ok (z : AV) (ps : List ((Nat × Nat) × Opd)) : PvOK (S := S) (.bld z ps) (pBld z ps) := fun e xe H κ q hH h hk => by
  refine blC_ok h ps fun w vs hvs hw => hk (.ag w) (.v _) ?_ rfl
  rw [ofCs_cl] at hw
  simp only [opv, hvs, hw, Option.map_some]; rfl

/-! ### strings and bytes, the library's entries -/
noncomputable def slowV (r : Option AV) (κ : V → FR) : FR := @Option.rec AV (fun _ => FR) .bad (fun a => κ (ofAV a)) r
theorem slowV_ok {q : Pr} {r : Option AV} {κ : V → FR} (h : ∀ a, r = some a → Agr (κ (ofAV a)) q) : Agr (slowV r κ) q := by
  cases r with
  | none => exact q.bad
  | some a => exact h a rfl
noncomputable def pk8 : Nat → Nat → Nat := @Nat.rec (fun _ => Nat → Nat) (fun _ => 0) (fun _ ih n => Nat.add (Nat.mul (ih (Nat.div n 18446744073709551616)) 256) (Nat.mod n 18446744073709551616))
noncomputable def ck8 : Nat → Nat → Bool := @Nat.rec (fun _ => Nat → Bool) (fun _ => true) (fun _ ih n => ifB (Nat.ble (Nat.mod n 18446744073709551616) 255) false (ih (Nat.div n 18446744073709551616)))
theorem pk8_ok : ∀ l n, ck8 l n = true → (digs 2 l n).mapM byteOf = some (byts l (pk8 l n))
  | 0, _, _ => rfl
  | l + 1, n, h => by
    have h' : ifB (Nat.ble (n % 18446744073709551616) 255) false (ck8 l (n / 18446744073709551616)) = true := h
    rw [ifB_ble] at h'
    split at h'
    · rename_i h1
      have e : pk8 (l + 1) n = pk8 l (n / 18446744073709551616) * 256 + n % 18446744073709551616 := rfl
      have hb : byteOf (scal 2 (n % 18446744073709551616)) = some (UInt8.ofNat (n % 18446744073709551616)) := by
        show (if (0 : Int) ≤ ((n % 18446744073709551616 : Nat) : Int) ∧ ((n % 18446744073709551616 : Nat) : Int) < 256 then some (UInt8.ofNat ((n % 18446744073709551616 : Nat) : Int).toNat) else none) = _
        rw [if_pos ⟨by omega, by omega⟩, Int.toNat_natCast]
      simp only [digs, byts, List.mapM_cons, hb, pk8_ok l _ h', e]
      have e1 : (pk8 l (n / 18446744073709551616) * 256 + n % 18446744073709551616) % 256 = n % 18446744073709551616 := by omega
      have e2 : (pk8 l (n / 18446744073709551616) * 256 + n % 18446744073709551616) / 256 = pk8 l (n / 18446744073709551616) := by omega
      rw [e1, e2]; rfl
    · cases h'
noncomputable def cvbC (c : V) (κ : V → FR) : FR := clRec (slowV (c.cl.mapM byteOf |>.map .str) κ) (fun _ _ _ => slowV (c.cl.mapM byteOf |>.map .str) κ)
  (fun k l n t _ => nilC' (slowV (c.cl.mapM byteOf |>.map .str) κ) (ifB (Nat.beq k 2) (slowV (c.cl.mapM byteOf |>.map .str) κ) (ifB (ck8 l n) (slowV (c.cl.mapM byteOf |>.map .str) κ) (κ (.s l (pk8 l n))))) t) c
where nilC' (s x : FR) (t : V) : FR := clRec x (fun _ _ _ => s) (fun _ _ _ _ _ => s) t
theorem cvbC_ok {q : Pr} {c : V} {κ : V → FR} (h : ∀ w s, c.cl.mapM byteOf = some s → w.pv = some (.str s) → Agr (κ w) q) : Agr (cvbC c κ) q := by
  have sl : Agr (slowV (c.cl.mapM byteOf |>.map .str) κ) q := slowV_ok fun a ha => by
    cases hm : c.cl.mapM byteOf with
    | none => rw [hm] at ha; cases ha
    | some s => rw [hm] at ha; obtain rfl := Option.some.inj ha; exact h _ s hm (ofAV_pv _).1
  unfold cvbC
  revert sl
  generalize slowV (c.cl.mapM byteOf |>.map .str) κ = s
  revert h
  refine cl_cases (P := fun c => (∀ w s, c.cl.mapM byteOf = some s → w.pv = some (.str s) → Agr (κ w) q) → Agr s q → Agr (clRec s (fun _ _ _ => s) (fun k l n t _ => cvbC.nilC' s (ifB (Nat.beq k 2) s (ifB (ck8 l n) s (κ (.s l (pk8 l n))))) t) c) q) (fun _ _ _ _ sl => sl) (fun k l n t _ h sl => ?_) (fun v h0 _ _ sl => by rw [h0]; exact sl) c
  show Agr (cvbC.nilC' s (ifB (Nat.beq k 2) s (ifB (ck8 l n) s (κ (.s l (pk8 l n))))) t) q
  revert h
  refine cl_cases (P := fun t => (∀ w s, (V.run k l n t).cl.mapM byteOf = some s → w.pv = some (.str s) → Agr (κ w) q) → Agr (cvbC.nilC' s (ifB (Nat.beq k 2) s (ifB (ck8 l n) s (κ (.s l (pk8 l n))))) t) q) (fun _ _ _ _ => sl) (fun _ _ _ _ _ _ => sl) (fun v h0 h1 h => ?_) t
  unfold cvbC.nilC'
  rw [h0, ifB_beq]
  split
  · rename_i hk
    subst hk
    refine ifB_ok (P := fun r => Agr r q) sl fun hc => h _ _ ?_ rfl
    simp only [V.cl, h1, List.append_nil]
    exact pk8_ok l n hc
  · exact sl
noncomputable def pCvb (x : Opd) : Pv S := (fun e H κ => slcK' ((opd S x).run e) .bad (fun _ c => cvbC c κ) (κ (.s 0 0))
  fun id ver lo len => arK id .bad (fun _ z l c => ifB (Nat.beq z 1) .bad (ifB (Nat.beq l ver) .bad (ifB (Nat.ble (Nat.add lo len) ver) .bad (cvbC (takeC (dropC c lo) len) κ)))) H.bl)
theorem pCvb_ok (x : Opd) : PvOK (S := S) (.cvb x) (pCvb x) := fun e xe H κ q hH h hk => by
  refine slcK'_ok (P := fun r => Agr r q) (opd_val h x) q.bad (fun nl c hc => cvbC_ok fun w s hs hw => hk w (.v (.str s)) ?_ (pv_den hw)) (fun hc => hk (.s 0 0) (.v (.str [])) ?_ rfl) (fun id ver lo len hc => arK_ok (P := fun r => Agr r q) q.bad _ hH fun nl z c hz => ?_)
  · simp only [opv, hc, hs, Option.map_some]
  · simp only [opv, hc]
  · rw [ifB_beq, ifB_beq, ifB_ble]
    by_cases h1 : z = 1
    · by_cases h2 : c.cl.length = ver
      · by_cases h3 : Nat.add lo len ≤ ver
        · rw [if_pos h1, if_pos h2, if_pos h3]
          refine cvbC_ok fun w s hs hw => hk w (.v (.str s)) ?_ (pv_den hw)
          subst h1
          have h4 : H.heap.get id = some (.arr nl 1 c.cl) := hz
          have h3' : lo + len ≤ ver := h3
          rw [takeC_eq, dropC_eq] at hs
          simp only [opv, hc, h4, h2, h3', and_self, if_true, hs, Option.map_some]
        · rw [if_pos h1, if_pos h2, if_neg h3]; exact q.bad
      · rw [if_pos h1, if_neg h2]; exact q.bad
    · rw [if_neg h1]; exact q.bad
noncomputable def up8 : Nat → Nat → Nat := @Nat.rec (fun _ => Nat → Nat) (fun _ => 0) (fun _ ih n => Nat.add (Nat.mul (ih (Nat.div n 256)) 18446744073709551616) (Nat.mod n 256))
theorem up8_eq : ∀ l n, digs 2 l (up8 l n) = (byts l n).map fun b => .int .u8 b.toNat
  | 0, _ => rfl
  | l + 1, n => by
    have e : up8 (l + 1) n = up8 l (n / 256) * 18446744073709551616 + n % 256 := rfl
    simp only [digs, byts, List.map_cons, e]
    have e1 : (up8 l (n / 256) * 18446744073709551616 + n % 256) % 18446744073709551616 = n % 256 := by omega
    have e2 : (up8 l (n / 256) * 18446744073709551616 + n % 256) / 18446744073709551616 = up8 l (n / 256) := by omega
    rw [e1, e2, up8_eq l]
    simp [scal, kk]
noncomputable def pCvs (x : Opd) : Pv S := (fun e _ κ => sK ((opd S x).run e) .bad fun l n => κ (.li false (.run 2 l (up8 l n) .nil)))
theorem pCvs_ok (x : Opd) : PvOK (S := S) (.cvs x) (pCvs x) := fun e xe H κ q hH h hk => by
  refine sK_ok (P := fun r => Agr r q) (opd_val h x) q.bad fun l n hs => hk (.li false _) (.v _) ?_ rfl
  simp only [opv, hs, V.av, V.cl, List.append_nil, up8_eq]
noncomputable def pCvl (x : Opd) : Pv S := (fun e _ κ => slcK' ((opd S x).run e) .bad (fun n c => κ (.li n c)) .bad fun _ _ _ _ => .bad)
theorem pCvl_ok (x : Opd) : PvOK (S := S) (.cvl x) (pCvl x) := fun e xe H κ q hH h hk => by
  refine slcK'_ok (P := fun r => Agr r q) (opd_val h x) q.bad (fun n c hc => hk (.li n c) (.v _) ?_ rfl) (fun _ => q.bad) (fun _ _ _ _ _ => q.bad)
  simp only [opv, hc]; rfl
noncomputable def ix8 (c : Nat) : Nat → Nat → Nat → Nat := @Nat.rec (fun _ => Nat → Nat → Nat) (fun _ _ => 9223372036854775807) (fun _ ih n i => ifB (Nat.beq (Nat.mod n 256) c) (ih (Nat.div n 256) (Nat.succ i)) (Nat.add i 9223372036854775808))
theorem ix8_eq (c : Nat) (hc : c < 256) : ∀ l n i, ((ix8 c l n i : Nat) : Int) - 9223372036854775808 = idxB (UInt8.ofNat c) i (byts l n)
  | 0, n, i => rfl
  | l + 1, n, i => by
    show ((ifB (Nat.beq (n % 256) c) (ix8 c l (n / 256) (i + 1)) (i + 9223372036854775808) : Nat) : Int) - _ = _
    rw [ifB_beq]
    simp only [byts, idxB]
    have e1 : (UInt8.ofNat (n % 256)).toNat = n % 256 := by simp
    have e2 : (UInt8.ofNat c).toNat = c := by simp; omega
    rw [e1, e2]
    by_cases h : n % 256 = c
    · rw [if_pos h, if_pos (by rw [h]; simp)]; omega
    · rw [if_neg h, if_neg (by rw [beq_dec]; simp [h])]
      exact ix8_eq c hc l _ _
noncomputable def natZ (k : Nat) (w : V) (κ : V → FR) : FR := slowV (natAV k w.cl) κ
noncomputable def pNat (k : Nat) (args : List Opd) : Pv S := (fun e _ κ => @Nat.rec (fun _ => FR) ((argC S args).run e fun w => natZ k w κ) (fun k1 _ => @Nat.rec (fun _ => FR)
  (@List.rec Opd (fun _ => FR) .bad (fun a t _ => @List.rec Opd (fun _ => FR) .bad (fun b t2 _ => @List.rec Opd (fun _ => FR) (sK ((opd S a).run e) .bad fun l n => uK ((opd S b).run e) .bad fun kb c => ifB (Nat.beq kb 0) .bad (ifB (Nat.ble c 255) .bad (κ (.i (ix8 c l n 0))))) (fun _ _ _ => .bad) t2) t) args)
  (fun _ _ => (argC S args).run e fun w => natZ k w κ) k1) k)
theorem pNat_ok (k : Nat) (args : List Opd) : PvOK (S := S) (.nat k args) (pNat k args) := fun e xe H κ q hH h hk => by
  have slow : Agr ((argC S args).run e fun w => natZ k w κ) q := argC_ok h args fun w vs hvs hc => slowV_ok fun a ha => hk _ (.v a) (by simp only [opv, hvs]; rw [← hc, ha]; rfl) (pv_den (ofAV_pv a).1)
  match k, slow with
  | 0, slow => exact slow
  | k + 2, slow => exact slow
  | 1, _ =>
    match args with
    | [] => exact q.bad
    | [a] => exact q.bad
    | a :: b :: c :: t => exact q.bad
    | [a, b] =>
      refine sK_ok (P := fun r => Agr r q) (opd_val h a) q.bad fun l n hs => uK_ok (P := fun r => Agr r q) (opd_val h b) q.bad fun kb c hb => ?_
      rw [ifB_beq, ifB_ble]
      split
      · rename_i h1
        subst h1
        split
        · rename_i h2
          have h2' : c ≤ 255 := h2
          refine hk (.i _) (.v _) ?_ rfl
          simp only [opv, allAV, hs, hb, Option.map_some, V.av, ix8_eq c (by omega)]
          simp [natAV, kk]
        · exact q.bad
      · exact q.bad
noncomputable def pBad : Pv S := (fun _ _ _ => .bad)
theorem pBad_ok (op : AOp) : PvOK (S := S) op pBad := fun _ _ _ _ q _ _ _ => q.bad

end
end Ey

namespace Ey
open Go (IntKind FloatKind BinOp UnOp)

/-! ### keys -/
noncomputable def mpA (d : FR) (f : Nat → FR) (y : AV) : FR := @AV.casesOn (fun _ => FR) y d (fun _ => d) (fun _ _ => d) (fun _ => d) (fun _ _ => d) (fun _ _ => d) d (fun _ _ _ _ => d) (fun _ => d) d (fun _ _ => d) (fun _ _ _ _ => d) (fun _ _ => d) d (fun _ _ => d) d (fun _ => d) (fun _ => d) (fun id => f id) d
noncomputable def mpK (v : V) (d : FR) (f : Nat → FR) : FR := @V.rec (fun _ => FR) (fun _ => d) (fun _ => d) (fun _ _ => d) (fun _ _ => d) (fun y => mpA d f y) (fun _ _ _ => d) d (fun _ _ _ _ => d) (fun _ _ => d) d (fun _ _ => d) (fun _ _ _ _ => d) (fun _ _ _ => d) d (fun _ _ _ => d) d (fun _ _ => d) (fun _ _ => d) d (fun _ _ _ _ => d) (fun _ _ _ _ _ => d) d d d (fun _ _ => d) (fun _ _ => d) v
theorem mpK_ok {P : FR → Prop} {v : V} {r : Option AV} (hv : v.val r) {d : FR} {f : Nat → FR} (hd : P d) (hf : ∀ id, r = some (.mp id) → P (f id)) : P (mpK v d f) := by
  cases v with
  | x y =>
    have h := hv _ rfl
    cases y with
    | mp id => exact hf id h
    | _ => exact hd
  | _ => exact hd
noncomputable def nuE (a b : V) (d : FR) (f : Bool → FR) : FR := numK a d (fun x => numK b d (fun y => f (Nat.beq x y)) (fun _ _ => d) (fun _ _ => d)) (fun k x => numK b d (fun _ => d) (fun k' y => ifB (Nat.beq k k') d (f (Nat.beq x y))) (fun _ _ => d)) (fun _ _ => d)
theorem nuE_ok {P : FR → Prop} {a b : V} {r r' : Option AV} (ha : a.val r) (hb : b.val r') {d : FR} {f : Bool → FR} (hd : P d) (hf : ∀ (k : IntKind) (x y : Int), r = some (.int k x) → r' = some (.int k y) → P (f (x == y))) : P (nuE a b d f) := by
  refine numK_ok ha hd (fun n hn => numK_ok hb hd (fun m hm => ?_) (fun _ _ _ => hd) (fun _ _ _ => hd)) (fun k n hn => numK_ok hb hd (fun _ _ => hd) (fun k' m hm => ?_) (fun _ _ _ => hd)) (fun _ _ _ => hd)
  · have := hf .i64 _ _ hn hm
    have e : Nat.beq n m = ((n : Int) - 9223372036854775808 == (m : Int) - 9223372036854775808) := by
      rw [beq_dec, Bool.eq_iff_iff]; simp; omega
    rw [e]; exact this
  · rw [ifB_beq]
    split
    · rename_i hk
      subst hk
      have := hf (kk k) _ _ hn hm
      have e : Nat.beq n m = ((n : Int) == (m : Int)) := by
        rw [beq_dec, Bool.eq_iff_iff]; simp; omega
      rw [e]; exact this
    · exact hd
noncomputable def keL (s : FR) (f : Bool → FR) : V → V → FR := clRec (fun b => clRec (f true) (fun _ _ _ => s) (fun _ _ _ _ _ => s) b) (fun h _ ih b => unK b s fun h' t' => nuE h h' s fun r => @Bool.rec (fun _ => FR) (f false) (ih t') r) (fun _ _ _ _ _ _ => s)
theorem keL_ok {P : FR → Prop} {s : FR} {f : Bool → FR} (hs : P s) : ∀ (a b : V), (∀ r, eqCells (List.replicate a.cl.length .i) a.cl b.cl = some r → P (f r)) → P (keL s f a b) := by
  refine cl_cases (P := fun a => ∀ b, (∀ r, eqCells (List.replicate a.cl.length .i) a.cl b.cl = some r → P (f r)) → P (keL s f a b)) (fun h t ih b hf => ?_) (fun k l n t ih b hf => ?_) (fun v h0 h1 b hf => ?_)
  · refine unK_ok (P := P) hs fun h' t' hb => ?_
    subst hb
    show P (nuE h h' s fun r => @Bool.rec (fun _ => FR) (f false) (keL s f t t') r)
    by_cases hp : h.pv = some h.av
    · by_cases hp' : h'.pv = some h'.av
      · refine nuE_ok (r := some h.av) (r' := some h'.av) (fun a ha => by rw [← ha, hp]) (fun a ha => by rw [← ha, hp']) hs fun k x y hx hy => ?_
        simp only [Option.some.injEq] at hx hy
        have e : ∀ r, eqCells (List.replicate (V.one h t).cl.length .i) (V.one h t).cl (V.one h' t').cl = r ↔ (match some (x == y) with
            | some true => eqCells (List.replicate t.cl.length .i) t.cl t'.cl
            | some false => some false
            | none => none) = r := fun r => by
          simp only [V.cl, List.length_cons, List.replicate_succ, eqCells, hx, hy, eqCell, if_true]
          exact Iff.rfl
        cases hxy : (x == y) with
        | true =>
          rw [hxy] at e
          exact ih t' fun r hr => hf r ((e _).2 hr)
        | false =>
          rw [hxy] at e
          exact hf false ((e _).2 rfl)
      · have : nuE h h' s (fun r => @Bool.rec (fun _ => FR) (f false) (keL s f t t') r) = s := by
          cases h' <;> first | exact absurd rfl hp' | (cases h <;> rfl)
        rw [this]; exact hs
    · have : nuE h h' s (fun r => @Bool.rec (fun _ => FR) (f false) (keL s f t t') r) = s := by
        cases h <;> first | exact absurd rfl hp | rfl
      rw [this]; exact hs
  · exact hs
  · have hk : keL s f v b = clRec (f true) (fun _ _ _ => s) (fun _ _ _ _ _ => s) b := congrFun (h0 (fun b => clRec (f true) (fun _ _ _ => s) (fun _ _ _ _ _ => s) b) _ _) b
    rw [hk]
    revert hf
    refine cl_cases (P := fun b => (∀ r, eqCells (List.replicate v.cl.length .i) v.cl b.cl = some r → P (f r)) → P (clRec (f true) (fun _ _ _ => s) (fun _ _ _ _ _ => s) b)) (fun _ _ _ _ => hs) (fun _ _ _ _ _ _ => hs) (fun w k0 k1 hf => ?_) b
    rw [k0]
    exact hf true (by rw [h1, k1]; rfl)
noncomputable def keyZ (n : Nat) (a b : V) (f : Bool → FR) : FR := @Nat.rec (fun _ => FR) (nuE a b .bad f) (fun p _ => agK a .bad fun c => agK b .bad fun c' => ifB (Nat.beq (lenC c') (Nat.succ p)) .bad (keL (eqS (List.replicate (Nat.succ p) .i) c c' f) f c c')) n
theorem keyZ_ok {q : Pr} {n : Nat} {a b : V} {x y : AV} (ha : a.val (some x)) (hb : b.val (some y)) (hx : keyOK n x = true) {f : Bool → FR} (hf : ∀ r, keyEq x y = some r → Agr (f r) q) : Agr (keyZ n a b f) q := by
  cases n with
  | zero =>
    refine nuE_ok (P := fun r => Agr r q) ha hb q.bad fun k u v hu hv => hf _ ?_
    simp only [Option.some.injEq] at hu hv
    rw [hu, hv]; simp [keyEq]
  | succ n =>
    refine agK_ok (P := fun r => Agr r q) ha q.bad fun c hc => agK_ok (P := fun r => Agr r q) hb q.bad fun c' hc' => ?_
    simp only [Option.some.injEq] at hc hc'
    subst hc; subst hc'
    have hl : c.cl.length = n + 1 := by
      unfold keyOK at hx
      simp only [Bool.and_eq_true, beq_iff_eq] at hx
      exact hx.1.1
    rw [ifB_beq, lenC_eq]
    split
    · rename_i hlen
      have key : ∀ r, eqCells (List.replicate c.cl.length .i) c.cl c'.cl = some r → Agr (f r) q := fun r hr => hf r (by simp only [keyEq]; rw [if_pos (by omega), hr])
      refine keL_ok (P := fun r => Agr r q) ?_ c c' key
      simp only [eqS]
      cases hr : eqAV (.agg (List.replicate (n + 1) .i)) (.agg c.cl) (.agg c'.cl) with
      | none => exact q.bad
      | some r =>
        simp only [eqAV, List.length_replicate] at hr
        split at hr
        · exact key r (by rw [hl]; exact hr)
        · cases hr
    · exact q.bad
noncomputable def alN (s : FR) : V → Nat → FR := clRec (fun m => @Nat.rec (fun _ => FR) s (fun _ _ => .bad) m) (fun h _ ih m => @Nat.rec (fun _ => FR) .bad (fun p _ => numK h .bad (fun _ => ih p) (fun _ _ => ih p) (fun _ _ => .bad)) m)
  (fun k l _ _ ih m => @Bool.rec (fun _ => FR) (ifB (Nat.ble l m) .bad (ih (Nat.sub m l))) .bad (Nat.beq k 1))
def isI : AV → Bool
  | .int _ _ => true
  | _ => false
theorem digs_isI (k : Nat) (hk : k ≠ 1) : ∀ l n, (digs k l n).all isI = true
  | 0, _ => rfl
  | l + 1, n => by
    simp only [digs, List.all_cons, digs_isI k hk l, Bool.and_true]
    match k, hk with
    | 0, _ => rfl
    | 1, h => exact absurd rfl h
    | k + 2, _ => rfl
theorem alN_ok {q : Pr} {s : FR} : ∀ (c : V) (m : Nat), (c.cl.length = m → c.cl.all isI = true → Agr s q) → Agr (alN s c m) q := by
  refine cl_cases (P := fun c => ∀ m, (c.cl.length = m → c.cl.all isI = true → Agr s q) → Agr (alN s c m) q) (fun h t ih m hs => ?_) (fun k l n t ih m hs => ?_) (fun v h0 h1 m hs => ?_)
  · cases m with
    | zero => exact q.bad
    | succ m =>
      have go : isI h.av = true → Agr (alN s t m) q := fun hi => ih m fun h1 h2 => hs (by simp only [V.cl, List.length_cons, h1]) (by simp only [V.cl, List.all_cons, hi, h2, Bool.and_self])
      refine numK_ok (P := fun r => Agr r q) (r := some h.av) (v := h) ?_ q.bad (fun n hn => go (by simp only [Option.some.injEq] at hn; rw [hn]; rfl)) (fun k n hn => go (by simp only [Option.some.injEq] at hn; rw [hn]; rfl)) (fun _ _ _ => q.bad)
      intro a ha
      have := (V.pv_sl ha).2.1
      rw [this]
  · show Agr (@Bool.rec (fun _ => FR) (ifB (Nat.ble l m) .bad (alN s t (Nat.sub m l))) .bad (Nat.beq k 1)) q
    cases hk : Nat.beq k 1 with
    | true => exact q.bad
    | false =>
      have hk' := Nat.ne_of_beq_eq_false hk
      show Agr (ifB (Nat.ble l m) .bad (alN s t (Nat.sub m l))) q
      rw [ifB_ble]
      split
      · rename_i hl
        refine ih _ fun h1 h2 => hs (by simp only [V.cl, List.length_append, digs_length, h1]; exact Nat.add_sub_cancel' hl) (by simp only [V.cl, List.all_append, digs_isI k hk', h2, Bool.and_self])
      · exact q.bad
  · have : alN s v m = @Nat.rec (fun _ => FR) s (fun _ _ => .bad) m := congrFun (h0 (fun m => @Nat.rec (fun _ => FR) s (fun _ _ => .bad) m) _ _) m
    rw [this]
    cases m with
    | zero => exact hs (by rw [h1]; rfl) (by rw [h1]; rfl)
    | succ m => exact q.bad
noncomputable def koK (n : Nat) (a : V) (s : FR) : FR := @Nat.rec (fun _ => FR) (numK a .bad (fun _ => s) (fun _ _ => s) (fun _ _ => .bad)) (fun p _ => agK a .bad fun c => alN s c (Nat.succ p)) n
theorem koK_ok {q : Pr} {n : Nat} {a : V} {r : Option AV} (ha : a.val r) {s : FR} (hs : ∀ x, r = some x → keyOK n x = true → Agr s q) : Agr (koK n a s) q := by
  cases n with
  | zero => exact numK_ok (P := fun r => Agr r q) ha q.bad (fun n hn => hs _ hn rfl) (fun k n hn => hs _ hn rfl) (fun _ _ _ => q.bad)
  | succ n =>
    refine agK_ok (P := fun r => Agr r q) ha q.bad fun c hc => alN_ok c _ fun h1 h2 => hs _ hc ?_
    simp only [keyOK, Bool.and_eq_true, beq_iff_eq, decide_eq_true_eq]
    refine ⟨⟨h1, by omega⟩, ?_⟩
    rw [List.all_eq_true] at h2 ⊢
    intro x hx
    have := h2 x hx
    cases x <;> first | rfl | cases this

/-! ### entries -/
noncomputable def mfC (n : Nat) (kv : V) (no : FR) (so : Nat → V → FR) : V → Nat → Nat → FR := clRec (fun ph _ => @Nat.rec (fun _ => FR) no (fun _ _ => .bad) ph)
  (fun h _ ih ph i => @Nat.rec (fun _ => FR) (keyZ n kv h fun r => @Bool.rec (fun _ => FR) (ih 2 i) (ih 1 i) r) (fun p _ => @Nat.rec (fun _ => FR) (vK h .bad (so i h)) (fun _ _ => ih 0 (Nat.succ i)) p) ph)
  (fun _ _ _ _ _ _ _ => .bad)
def mfP (q : Pr) (no : FR) (so : Nat → V → FR) (r : Option (Nat × AV)) : Prop := match r with
  | none => Agr no q
  | some (j, x) => ∀ v : V, v.av = x → v.pv = some x → Agr (so j v) q
theorem mfC_ok {q : Pr} {n : Nat} {kv : V} {x : AV} (hkv : kv.val (some x)) (hx : keyOK n x = true) {no : FR} {so : Nat → V → FR} : ∀ (c : V) (i : Nat), 
    ((∀ r, mpFind x (prs c.cl) i = some r → mfP q no so r) → Agr (mfC n kv no so c 0 i) q) ∧
    ((∀ y l, c.cl = y :: l → mfP q no so (some (i, y))) → Agr (mfC n kv no so c 1 i) q) ∧
    ((∀ y l, c.cl = y :: l → ∀ r, mpFind x (prs l) (i + 1) = some r → mfP q no so r) → Agr (mfC n kv no so c 2 i) q) := by
  refine cl_cases (P := fun c => ∀ i, ((∀ r, mpFind x (prs c.cl) i = some r → mfP q no so r) → Agr (mfC n kv no so c 0 i) q) ∧
    ((∀ y l, c.cl = y :: l → mfP q no so (some (i, y))) → Agr (mfC n kv no so c 1 i) q) ∧
    ((∀ y l, c.cl = y :: l → ∀ r, mpFind x (prs l) (i + 1) = some r → mfP q no so r) → Agr (mfC n kv no so c 2 i) q)) (fun h t ih i => ⟨fun hr => ?_, fun hr => ?_, fun hr => ?_⟩) (fun k l n t ih i => ⟨fun _ => q.bad, fun _ => q.bad, fun _ => q.bad⟩) (fun v h0 h1 i => ?_)
  · show Agr (keyZ n kv h fun r => @Bool.rec (fun _ => FR) (mfC n kv no so t 2 i) (mfC n kv no so t 1 i) r) q
    by_cases hp : h.pv = some h.av
    · refine keyZ_ok (x := x) (y := h.av) hkv (fun a ha => by rw [← ha, hp]) hx fun r hk => ?_
      have e : ∀ y l, t.cl = y :: l → mpFind x (prs (V.one h t).cl) i = match r with
          | true => some (some (i, y))
          | false => mpFind x (prs l) (i + 1) := fun y l ht => by
        simp only [V.cl, ht, prs, mpFind, hk]
        cases r <;> rfl
      cases r with
      | true => exact (ih i).2.1 fun y l ht => hr _ (e y l ht)
      | false => exact (ih i).2.2 fun y l ht r' h' => hr _ ((e y l ht).trans h')
    · have : (keyZ n kv h fun r => @Bool.rec (fun _ => FR) (mfC n kv no so t 2 i) (mfC n kv no so t 1 i) r) = .bad ∨ True := .inr trivial
      have bad : ∀ f : Bool → FR, Agr (keyZ n kv h f) q := fun f => by
        cases n with
        | zero =>
          show Agr (nuE kv h .bad f) q
          refine numK_ok (P := fun r => Agr r q) (r := some x) hkv q.bad (fun _ _ => ?_) (fun _ _ _ => ?_) (fun _ _ _ => q.bad) <;> (cases h <;> first | exact absurd rfl hp | exact q.bad)
        | succ n =>
          refine agK_ok (P := fun r => Agr r q) hkv q.bad fun c hc => ?_
          cases h <;> first | exact absurd rfl hp | exact q.bad
      exact bad _
  · refine vK_ok (P := fun r => Agr r q) q.bad fun hp => ?_
    exact hr h.av t.cl rfl h rfl hp
  · exact (ih (i + 1)).1 fun r hh => hr _ _ rfl r hh
  · have e : ∀ ph i, mfC n kv no so v ph i = @Nat.rec (fun _ => FR) no (fun _ _ => .bad) ph := fun ph i => congrFun (congrFun (h0 (fun ph _ => @Nat.rec (fun _ => FR) no (fun _ _ => .bad) ph) _ _) ph) i
    refine ⟨fun hr => ?_, fun _ => ?_, fun _ => ?_⟩
    · rw [e]; exact hr none (by rw [h1]; rfl)
    · rw [e]; exact q.bad
    · rw [e]; exact q.bad

theorem prs_set : ∀ (l : List AV) (i : Nat) (a b : AV), prs ((l.set (2 * i) a).set (2 * i + 1) b) = (prs l).set i (a, b)
  | [], i, a, b => by simp [prs]
  | [x], i, a, b => by cases i <;> simp [prs, Nat.mul_add]
  | x :: y :: l, 0, a, b => rfl
  | x :: y :: l, i + 1, a, b => by
    have e1 : 2 * (i + 1) = 2 * i + 1 + 1 := by omega
    have e2 : 2 * (i + 1) + 1 = 2 * i + 1 + 1 + 1 := by omega
    rw [e2, e1]
    simp only [List.set_cons_succ, prs, prs_set l i a b]
theorem prs_app : ∀ (l : List AV) (a b : AV), l.length % 2 = 0 → prs (l ++ [a, b]) = prs l ++ [(a, b)]
  | [], a, b, _ => rfl
  | [x], a, b, h => by simp at h
  | x :: y :: l, a, b, h => by
    simp only [List.cons_append, prs]
    rw [prs_app l a b (by simp only [List.length_cons] at h; omega)]
noncomputable def snC (z : V) : V → V := clRec z (fun h _ ih => .one h ih) (fun k l n _ ih => .run k l n ih)
theorem snC_eq (z c : V) : (snC z c).cl = c.cl ++ z.cl := by
  refine cl_cases (P := fun c => (snC z c).cl = c.cl ++ z.cl) (fun h t ih => ?_) (fun k l n t ih => ?_) (fun v h0 h1 => ?_) c
  · show h.av :: (snC z t).cl = _; rw [ih]; rfl
  · show digs k l n ++ (snC z t).cl = _; rw [ih]; simp only [V.cl, List.append_assoc]
  · have : snC z v = z := h0 z _ _
    rw [this, h1]; rfl

section
variable {S : List Nat}
noncomputable def tuB (ok : Bool) (h : V) (b : Bool) : V := @Bool.rec (fun _ => V) h (.tu (.one h (.one (.b b) .nil))) ok
noncomputable def pMpl (n : Nat) (z : AV) (ok : Bool) (m k : Opd) : Pv S := (fun e H κ => mpK ((opd S m).run e) .bad fun id => koK n ((opd S k).run e) (mpB id .bad (fun c => mfC n ((opd S k).run e) (κ (tuB ok (ofAV z) false)) (fun _ h => κ (tuB ok h true)) c 0 0) H.bl))
theorem tuB_den (ok : Bool) {h : V} {x : AV} (hp : h.pv = some x) (b : Bool) : (tuB ok h b).den (.v (if ok then .tup [x, .bool b] else x)) := by
  cases ok with
  | false => exact pv_den hp
  | true =>
    have := (V.pv_sl hp).2.1
    show Sl.v _ = Sl.v (.tup [h.av, .bool b])
    rw [this]; rfl
theorem pMpl_ok (n : Nat) (z : AV) (ok : Bool) (m k : Opd) : PvOK (S := S) (.mpl n z ok m k) (pMpl n z ok m k) := fun e xe H κ q hH h hk => by
  show Agr (mpK ((opd S m).run e) .bad fun id => koK n ((opd S k).run e) (mpB id .bad (fun c => mfC n ((opd S k).run e) (κ (tuB ok (ofAV z) false)) (fun _ h => κ (tuB ok h true)) c 0 0) H.bl)) q
  refine mpK_ok (P := fun r => Agr r q) (opd_val h m) q.bad fun id hid => koK_ok (opd_val h k) fun x hx hko => mpB_ok (P := fun r => Agr r q) q.bad _ hH fun c he hc => (mfC_ok (x := x) (by rw [← hx]; exact opd_val h k) hko c 0).1 fun r hr => ?_
  have hg : H.heap.get id = some (.map (prs c.cl)) := hc
  cases r with
  | none =>
    refine hk _ (.v (if ok then .tup [z, .bool false] else z)) ?_ (tuB_den ok (ofAV_pv z).1 false)
    simp only [opv, hid, hx, hko, if_true, hg, hr]
  | some p =>
    obtain ⟨j, y⟩ := p
    intro v hv hp
    refine hk _ (.v (if ok then .tup [y, .bool true] else y)) ?_ (tuB_den ok hp true)
    simp only [opv, hid, hx, hko, if_true, hg, hr]
noncomputable def smL : V → V → Bool := fun a b => AV.sames a.cl b.cl
noncomputable def pSts (sz : Nat) (a v : Opd) : Pv S := (fun e H κ => adK (opn a) ((opd S a).run e) .bad (fun _ _ => .bad) (fun _ => .bad)
  (fun i o => ceK ((opd S v).run e) .bad fun w => ifB (Nat.ble H.ro i) .bad (ifB (Nat.beq (lenC w) sz) .bad (obK i .bad (fun c => ifB (smL (takeC (dropC c o) sz) w) .bad (κ .un)) H.bl))) (fun _ _ _ _ => .bad))
theorem pSts_ok (sz : Nat) (a v : Opd) : PvOK (S := S) (.sts sz a v) (pSts sz a v) := fun e xe H κ q hH h hk => by
  show Agr (adK (opn a) ((opd S a).run e) .bad (fun _ _ => .bad) (fun _ => .bad)
    (fun i o => ceK ((opd S v).run e) .bad fun w => ifB (Nat.ble H.ro i) .bad (ifB (Nat.beq (lenC w) sz) .bad (obK i .bad (fun c => ifB (smL (takeC (dropC c o) sz) w) .bad (κ .un)) H.bl))) (fun _ _ _ _ => .bad)) q
  refine adK_ok (P := fun r => Agr r q) (opd_dle h a) q.bad (fun _ _ _ => q.bad) (fun _ _ => q.bad) (fun i o hs => ceK_ok (P := fun r => Agr r q) q.bad fun w hp hw => ?_) (fun _ _ _ _ _ => q.bad)
  rw [ifB_ble]
  split
  · rename_i hro
    rw [ifB_beq, lenC_eq]
    split
    · rename_i hl
      refine obK_ok (P := fun r => Agr r q) q.bad _ hH fun c hc => ?_
      cases hsm : smL (takeC (dropC c o) sz) w with
      | false => exact q.bad
      | true =>
        refine hk .un .un ?_ rfl
        have hg : H.heap.get i = some (.obj c.cl) := hc
        have hro' : H.heap.ro ≤ i := hro
        have hv := opd_val h v _ hp
        simp only [smL, takeC_eq, dropC_eq] at hsm
        rw [hw] at hl hsm
        simp only [opv, hs, hv, hro', hl, and_self, if_true, hg, hsm]
    · exact q.bad
  · exact q.bad
noncomputable def pChk (a b : Opd) : Pv S := (fun e _ κ => vK ((opd S a).run e) .bad (vK ((opd S b).run e) .bad (ifB (AV.same2 ((opd S a).run e).av ((opd S b).run e).av) .bad (κ .no))))
theorem pChk_ok (a b : Opd) : PvOK (S := S) (.chk a b) (pChk a b) := fun e xe H κ q _ h hk => by
  show Agr (vK ((opd S a).run e) .bad (vK ((opd S b).run e) .bad (ifB (AV.same2 ((opd S a).run e).av ((opd S b).run e).av) .bad (κ .no)))) q
  refine vK_ok (P := fun r => Agr r q) q.bad fun hp => vK_ok (P := fun r => Agr r q) q.bad fun hp2 => ifB_ok (P := fun r => Agr r q) q.bad fun hs => hk .no .no ?_ rfl
  have h1 := opd_val h a _ hp
  have h2 := opd_val h b _ hp2
  simp only [opv, h1, h2, hs, if_true]
noncomputable def pRmc (m : Nat) (a b : Opd) : Pv S := (fun e _ κ => nnZ ((opd S b).run e) .bad fun y => ifB (Nat.beq y m) .bad (binZ .rem ((opd S a).run e) ((opd S b).run e) κ))
theorem pRmc_ok (m : Nat) (a b : Opd) : PvOK (S := S) (.rmc m a b) (pRmc m a b) := fun e xe H κ q _ h hk => by
  show Agr (nnZ ((opd S b).run e) .bad fun y => ifB (Nat.beq y m) .bad (binZ .rem ((opd S a).run e) ((opd S b).run e) κ)) q
  refine nnZ_ok (opd_val h b) q.bad fun k n hn => ?_
  rw [ifB_beq]
  split
  · rename_i he
    subst he
    refine binZ_ok .rem (opd_val h a) (opd_val h b) fun w r hr hp => hk w (.v r) ?_ (pv_den hp)
    simp only [bin2, hn] at hr
    simp only [opv, hn]
    split at hr
    · rename_i a' b' ha hb; cases hb; rw [ha]; simp only [hr, Option.map_some, if_true]
    · cases hr
  · exact q.bad
end
end Ey

namespace Ey
open Go (IntKind FloatKind BinOp UnOp)

abbrev ZCaller := Nat → V → ZH → FR
def AgrZ (cl : ZCaller) (c : Caller) : Prop := ∀ f w H, H.ok → Agf (cl f w H) (c f w.cl H.heap)

structure KR (J : List Nat) where
  r : E J → ZH → FR
  p : V → E J → ZH → FR

def Oc (S S' J : List Nat) : Type := ZCaller → (E S' → ZH → FR) → KR J → E S → ZH → FR

/-! ### slots set, slots chosen -/
def dS (d : Option Nat) (S : List Nat) : List Nat := match d with
  | none => S
  | some s => s :: S
noncomputable def setD (d : Option Nat) {S : List Nat} (e : E S) (v : V) : E (dS d S) := @Option.rec Nat (fun d => E (dS d S)) e (fun s => E.cons s v e) d
theorem rel_setD {S : List Nat} {e : E S} {x : Env} (h : Rel S e x) (d : Option Nat) {v : V} {s : Sl} (hv : v.den s) : Rel (dS d S) (setD d e v) (setDst d s x) := by
  cases d with
  | none => exact h
  | some a => exact rel_cons h a hv
structure Nm (S J : List Nat) where
  run : E S → E J
def nrmC (S : List Nat) : (J : List Nat) → Nm S J
  | [] => ⟨fun _ => E.none⟩
  | j :: r => ⟨fun e => E.cons j ((acc S j).run e) ((nrmC S r).run e)⟩
theorem rel_nrm {S : List Nat} {e : E S} {x : Env} (h : Rel S e x) : ∀ J : List Nat, Rel J ((nrmC S J).run e) x
  | [] => fun s => trivial
  | j :: r => fun s => by
    simp only [getE]
    split
    · rename_i hs
      subst hs
      show ((acc S s).run e).den _
      rw [acc_eq]; exact h s
    · exact rel_nrm h r s
structure Up (S : List Nat) where
  run : E S → V → E S
def upC : (S : List Nat) → Nat → Up S
  | [], _ => ⟨fun e _ => e⟩
  | a :: r, s => bif Nat.beq s a then ⟨fun e v => E.cons a v e.tl⟩ else ⟨fun e v => E.cons a e.hd ((upC r s).run e.tl v)⟩
theorem upC_get : ∀ (S : List Nat) (s : Nat) (e : E S) (v : V) (t : Nat), getE S ((upC S s).run e v) t = getE S e t ∨ (t = s ∧ getE S ((upC S s).run e v) t = v)
  | [], _, _, _, _ => .inl rfl
  | a :: r, s, e, v, t => by
    simp only [upC, beq_dec]
    by_cases h : s = a
    · subst h
      simp only [decide_true, cond_true, getE]
      by_cases ht : t = s
      · exact .inr ⟨ht, by rw [if_pos ht]; rfl⟩
      · rw [if_neg ht, if_neg ht]; exact .inl rfl
    · simp only [h, decide_false, cond_false, getE]
      by_cases ht : t = a
      · rw [if_pos ht, if_pos ht]; exact .inl rfl
      · rw [if_neg ht, if_neg ht]; exact upC_get r s e.tl v t
theorem upC_miss : ∀ (S : List Nat) (s : Nat) (e : E S) (v : V), getE S ((upC S s).run e v) s = v ∨ getE S ((upC S s).run e v) s = .wh
  | [], _, _, _ => .inr rfl
  | a :: r, s, e, v => by
    simp only [upC, beq_dec]
    by_cases h : s = a
    · subst h
      simp only [decide_true, cond_true, getE, if_true]; exact .inl rfl
    · simp only [h, decide_false, cond_false, getE, if_false]
      exact upC_miss r s e.tl v
theorem rel_up {S : List Nat} {e : E S} {x : Env} (h : Rel S e x) (s : Nat) {v : V} {sl : Sl} (hv : v.den sl) : Rel S ((upC S s).run e v) ((s, sl) :: x) := by
  intro t
  simp only [Env.get]
  by_cases ht : t = s
  · subst ht
    rw [if_pos rfl]
    rcases upC_miss S t e v with h1 | h1 <;> rw [h1]
    · exact hv
    · trivial
  · rw [if_neg ht]
    rcases upC_get S s e v t with h1 | h1
    · rw [h1]; exact h t
    · exact absurd h1.1 ht

def Go1 {S' : List Nat} (κ : E S' → ZH → FR) (q : Pr) (o : Option Out) : Prop := ∀ e' x' H', H'.ok → o = some (.go .nrm x' H'.heap) → Rel S' e' x' → Agr (κ e' H') q
def Pan1 {J : List Nat} (kr : KR J) (q : Pr) (o : Option Out) : Prop := ∀ v er x' H', H'.ok → o = some (.pan v.av x' H'.heap) → v.pv = some v.av → Rel J er x' → Agr (kr.p v er H') q
def OcOK {S S' J : List Nat} (d : Option Nat) (op : AOp) (oc : Oc S S' J) : Prop := ∀ (cl : ZCaller) (c : Caller), AgrZ cl c → ∀ (e : E S) (x : Env) (H : ZH) (κ : E S' → ZH → FR) (kr : KR J) (q : Pr), H.ok → Rel S e x →
  Go1 κ q (opS c d x H.heap op) → Pan1 kr q (opS c d x H.heap op) → Agr (oc cl κ kr e H) q

section
variable {S J : List Nat}

noncomputable def natR (n : Nat) (k : Nat → FR) : FR := @Nat.rec (fun _ => FR) (k 0) (fun m _ => k (Nat.succ m)) n
theorem natR_eq (n : Nat) (k : Nat → FR) : natR n k = k n := by cases n <;> rfl
noncomputable def hK (H : ZH) (k : Nat → Nat → HB → FR) : FR := @ZH.rec (fun _ => FR) k H
theorem hK_eq (H : ZH) (k : Nat → Nat → HB → FR) : hK H k = k H.next H.ro H.bl := rfl
noncomputable def nwO (H : ZH) (c : V) (k : Nat → ZH → FR) : FR := hK H fun nx ro bl => natR nx fun i => k i ⟨Nat.succ i, ro, sO i c bl⟩
theorem nwO_eq (H : ZH) (c : V) (k : Nat → ZH → FR) : nwO H c k = k H.next ⟨H.next + 1, H.ro, sO H.next c H.bl⟩ := by
  rw [nwO, hK_eq, natR_eq]
noncomputable def nwA (H : ZH) (nl : Bool) (sz len : Nat) (c : V) (k : Nat → ZH → FR) : FR := hK H fun nx ro bl => natR nx fun i => k i ⟨Nat.succ i, ro, sA i nl sz len c bl⟩
theorem nwA_eq (H : ZH) (nl : Bool) (sz len : Nat) (c : V) (k : Nat → ZH → FR) : nwA H nl sz len c k = k H.next ⟨H.next + 1, H.ro, sA H.next nl sz len c H.bl⟩ := by
  rw [nwA, hK_eq, natR_eq]

noncomputable def oPv (d : Option Nat) (p : Pv S) : Oc S (dS d S) J := (fun _ κ _ e H => p e H fun w => κ (setD d e w) H)
theorem oPv_ok {d : Option Nat} {op : AOp} {p : Pv S} (hp : PvOK op p) (hop : ∀ c x H, opS c d x H op = match opv x H op with | some s => some (.go .nrm (setDst d s x) H) | none => none) : OcOK d op (oPv (J := J) d p) := fun cl c hcl e x H κ kr q hH h hg _ => by
  refine hp e x H _ q hH h fun w s hs hw => hg _ (setDst d s x) H hH ?_ (rel_setD h d hw)
  rw [hop, hs]

noncomputable def oAlv (s : Nat) (cs : List AV) : Oc S (s :: S) J := (fun _ κ _ e H => nlK ((acc S s).run e) .bad (κ (E.cons s (.lv (ofCs cs)) e) H))
theorem get_den {e : E S} {x : Env} (h : Rel S e x) (s : Nat) : ((acc S s).run e).den (x.get s) := by rw [acc_eq]; exact h s
theorem oAlv_ok (s : Nat) (cs : List AV) : OcOK (some s) (.alv cs) (oAlv (S := S) (J := J) s cs) := fun cl c hcl e x H κ kr q hH h hg _ => by
  unfold oAlv
  refine nlK_ok (P := fun r => Agr r q) (get_den h s) q.bad fun hn => hg _ ((s, .lv cs) :: x) H hH ?_ (rel_cons h s (by show Sl.lv cs = .lv (ofCs cs).cl; rw [ofCs_cl]))
  simp only [opS]
noncomputable def oBlv (s sz : Nat) (v : Opd) : Oc S (s :: S) J := (fun _ κ _ e H => nlK ((acc S s).run e) .bad (ceK ((opd S v).run e) .bad fun c => ifB (Nat.beq (lenC c) sz) .bad (κ (E.cons s (.lv c) e) H)))
theorem oBlv_ok (s sz : Nat) (v : Opd) : OcOK (some s) (.blv sz v) (oBlv (S := S) (J := J) s sz v) := fun cl c hcl e x H κ kr q hH h hg _ => by
  unfold oBlv
  refine nlK_ok (P := fun r => Agr r q) (get_den h s) q.bad fun hn => ceK_ok (P := fun r => Agr r q) q.bad fun w hp hw => ?_
  rw [ifB_beq, lenC_eq]
  split
  · rename_i hl
    rw [hw] at hl
    refine hg _ ((s, .lv ((opd S v).run e).av.cells) :: x) H hH ?_ (rel_cons h s (by show Sl.lv _ = .lv w.cl; rw [hw]))
    simp only [opS, opd_val h v _ hp]
    rw [if_pos hl]
  · exact q.bad
noncomputable def oAob (d : Option Nat) (cs : List AV) : Oc S (dS d S) J := (fun _ κ _ e H => nwO H (ofCs cs) fun i H' => κ (setD d e (.pt i 0)) H')
theorem oAob_ok (d : Option Nat) (cs : List AV) : OcOK d (.aob cs) (oAob (S := S) (J := J) d cs) := fun cl c hcl e x H κ kr q hH h hg _ => by
  show Agr (nwO H (ofCs cs) fun i H' => κ (setD d e (.pt i 0)) H') q
  rw [nwO_eq]
  refine hg _ (setDst d (.v (.ptr H.next 0)) x) _ (sO_ok hH) ?_ (rel_setD h d rfl)
  rw [heap_new_obj, ofCs_cl]; rfl
noncomputable def oBob (d : Option Nat) (sz : Nat) (v : Opd) : Oc S (dS d S) J := (fun _ κ _ e H => ceK ((opd S v).run e) .bad fun c => ifB (Nat.beq (lenC c) sz) .bad (nwO H c fun i H' => κ (setD d e (.pt i 0)) H'))
theorem oBob_ok (d : Option Nat) (sz : Nat) (v : Opd) : OcOK d (.bob sz v) (oBob (S := S) (J := J) d sz v) := fun cl c hcl e x H κ kr q hH h hg _ => by
  unfold oBob
  refine ceK_ok (P := fun r => Agr r q) q.bad fun w hp hw => ?_
  rw [ifB_beq, lenC_eq, nwO_eq]
  split
  · rename_i hl
    rw [hw] at hl
    refine hg _ (setDst d (.v (.ptr H.next 0)) x) _ (sO_ok hH) ?_ (rel_setD h d rfl)
    rw [heap_new_obj, hw]
    simp only [opS, opd_val h v _ hp]
    rw [if_pos hl]; rfl
  · exact q.bad

/-! ### stores -/
noncomputable def puE (y : V) (off : Nat) (w : V) (k : V → FR) : FR := ceK y .bad fun c => ifB (Nat.ble (Nat.add off (lenC w)) (lenC c)) .bad
  (ifB (Nat.beq (lenC c) (lenC w)) (k (.ag (putC' c off w))) (agK y (nthZ .bad k w 0) fun _ => k (.ag w)))
theorem puE_ok {q : Pr} {y : V} {off : Nat} {w : V} {k : V → FR} (hk : ∀ u : V, off + w.cl.length ≤ y.av.cells.length → u.av = putElem y.av off w.cl → Agr (k u) q) : Agr (puE y off w k) q := by
  refine ceK_ok' (P := fun r => Agr r q) q.bad fun c hp hc ho => ?_
  rw [ifB_ble, ifB_beq, lenC_eq, lenC_eq, hc]
  split
  · rename_i h1
    have h1' : off + w.cl.length ≤ y.av.cells.length := h1
    split
    · rename_i h2
      have ho' : off = 0 := by omega
      subst ho'
      rcases ho with ⟨u, rfl⟩ | hn
      · exact hk (.ag w) h1' (by simp only [putElem, h2, and_self, if_true]; rfl)
      · have e : agK y (nthZ .bad k w 0) (fun _ => k (.ag w)) = nthZ .bad k w 0 := by
          cases y <;> first | rfl | exact absurd rfl (hn _)
        rw [e]
        refine nthZ_ok (P := fun r => Agr r q) q.bad w 0 fun v hv => hk v h1' ?_
        simp only [putElem, h2, and_self, if_true]
        have : w.cl.headD .undef = v.av := by
          cases hw : w.cl with
          | nil => rw [hw] at hv; simp at hv
          | cons a l => rw [hw] at hv; simp at hv; simp [hv]
        exact this.symm
    · rename_i h2
      refine hk (.ag _) h1' ?_
      simp only [V.av, putElem]
      rw [if_neg (fun h => h2 h.1), putC'_eq w (by rw [hc]; exact h1'), hc]
  · exact q.bad

noncomputable def stO (H : ZH) (i off : Nat) (w : V) (k : ZH → FR) : FR := hK H fun nx ro bl => ifB (Nat.ble ro i) .bad (obK i .bad (fun c => ifB (Nat.ble (Nat.add off (lenC w)) (lenC c)) .bad (k ⟨nx, ro, sO i (putC' c off w) bl⟩)) bl)
noncomputable def stA (H : ZH) (i ver j off : Nat) (w : V) (k : ZH → FR) : FR := hK H fun nx ro bl => ifB (Nat.ble ro i) .bad (arK i .bad (fun nl z len c => ifB (Nat.beq len ver) .bad (nthZ .bad (fun y => puE y off w fun u => k ⟨nx, ro, sA i nl z len (setC u c j) bl⟩) c j)) bl)
theorem stO_ok {q : Pr} {x : Env} {H : ZH} (hH : H.ok) {i off : Nat} {w : V} {k : ZH → FR} (hk : ∀ H', H'.ok → stS x H.heap w.cl (.v (.ptr i off)) = some (x, H'.heap) → Agr (k H') q) : Agr (stO H i off w k) q := by
  unfold stO
  rw [hK_eq, ifB_ble]
  split
  · rename_i h0
    refine obK_ok (P := fun r => Agr r q) q.bad _ hH fun c hc => ?_
    rw [ifB_ble, lenC_eq, lenC_eq]
    split
    · rename_i h1
      have h1' : off + w.cl.length ≤ c.cl.length := h1
      refine hk _ (sO_ok hH) ?_
      have h2 : H.heap.get i = some (.obj c.cl) := hc
      have h3 : ¬ i < H.heap.ro := Nat.not_lt.2 h0
      simp only [stS, h3, if_false, h2, h1', if_true, heap_obj, putC'_eq w h1']
    · exact q.bad
  · exact q.bad
theorem stA_ok {q : Pr} {x : Env} {H : ZH} (hH : H.ok) {i ver j off : Nat} {w : V} {k : ZH → FR} (hk : ∀ H', H'.ok → stS x H.heap w.cl (.v (.ap i ver j off)) = some (x, H'.heap) → Agr (k H') q) : Agr (stA H i ver j off w k) q := by
  unfold stA
  rw [hK_eq, ifB_ble]
  split
  · rename_i h0
    refine arK_ok (P := fun r => Agr r q) q.bad _ hH fun nl z c hc => ?_
    rw [ifB_beq]
    split
    · rename_i hl
      refine nthZ_ok (P := fun r => Agr r q) q.bad c j fun y hy => puE_ok fun u h1 hu => hk _ (sA_ok (by rw [setC_eq, List.length_set]) hH) ?_
      have h2 : H.heap.get i = some (.arr nl z c.cl) := hc
      have h3 : ¬ i < H.heap.ro := Nat.not_lt.2 h0
      simp only [stS, h3, if_false, h2, hl, if_true, hy, h1, heap_arr, setC_eq, hu]
    · exact q.bad
  · exact q.bad
noncomputable def oSt (sz : Nat) (a v : Opd) : Oc S S J := (fun _ κ _ e H => ceK ((opd S v).run e) .bad fun w => ifB (Nat.beq (lenC w) sz) .bad (adK (opn a) ((opd S a).run e) .bad
  (fun s off => lvR S s e .bad fun c => ifB (Nat.ble (Nat.add off sz) (lenC c)) .bad (κ ((upC S s).run e (.lv (putC' c off w))) H)) (fun _ => .bad)
  (fun i off => stO H i off w fun H' => κ e H') (fun i ver j off => stA H i ver j off w fun H' => κ e H')))
theorem oSt_ok (d : Option Nat) (sz : Nat) (a v : Opd) : OcOK d (.st sz a v) (oSt (S := S) (J := J) sz a v) := fun cl c hcl e x H κ kr q hH h hg _ => by
  unfold oSt
  refine ceK_ok (P := fun r => Agr r q) q.bad fun w hp hw => ?_
  rw [ifB_beq, lenC_eq]
  split
  · rename_i hl
    have hv := opd_val h v _ hp
    have key : ∀ x' H', stS x H.heap w.cl (x.sl a) = some (x', H') → opS c d x H.heap (.st sz a v) = some (.go .nrm x' H') := fun x' H' hs => by
      simp only [opS, hv, ← hw, hl, if_true, hs]
    refine adK_ok (P := fun r => Agr r q) (opd_dle h a) q.bad (fun t off hs => lvR_ok h q.bad fun c' hc' => ?_) (fun _ _ => q.bad)
      (fun i off hs => stO_ok hH fun H' hH' hst => hg e x H' hH' (key _ _ (by rw [hs]; exact hst)) h) (fun i ver j off hs => stA_ok hH fun H' hH' hst => hg e x H' hH' (key _ _ (by rw [hs]; exact hst)) h)
    rw [ifB_ble, lenC_eq]
    split
    · rename_i h1
      have h1' : off + w.cl.length ≤ c'.cl.length := by rw [hl]; exact h1
      refine hg _ ((t, .lv (putAt c'.cl off w.cl)) :: x) H hH (key _ _ ?_) (rel_up h t (by show Sl.lv _ = .lv (putC' c' off w).cl; rw [putC'_eq w h1']))
      rw [hs]; simp only [stS, hc', h1', if_true]
    · exact q.bad
  · exact q.bad
noncomputable def oSto (d : Option Nat) (sz : Nat) (a v : Opd) : Oc S (dS d S) J := (fun _ κ _ e H => ceK ((opd S v).run e) .bad fun w => ifB (Nat.beq (lenC w) sz) .bad (adK (opn a) ((opd S a).run e) .bad
  (fun _ _ => .bad) (fun _ => .bad)
  (fun i off => stO H i off w fun H' => κ (setD d e .un) H') (fun i ver j off => stA H i ver j off w fun H' => κ (setD d e .un) H')))
theorem oSto_ok (d : Option Nat) (sz : Nat) (a v : Opd) : OcOK d (.sto sz a v) (oSto (S := S) (J := J) d sz a v) := fun cl c hcl e x H κ kr q hH h hg _ => by
  unfold oSto
  refine ceK_ok (P := fun r => Agr r q) q.bad fun w hp hw => ?_
  rw [ifB_beq, lenC_eq]
  split
  · rename_i hl
    have hv := opd_val h v _ hp
    have key : ∀ y H', x.sl a = .v y → stS x H.heap w.cl (.v y) = some (x, H') → opS c d x H.heap (.sto sz a v) = some (.go .nrm (setDst d .un x) H') := fun y H' hy hs => by
      simp only [opS, hy, hv, ← hw, hl, if_true, hs]
    exact adK_ok (P := fun r => Agr r q) (opd_dle h a) q.bad (fun t off hs => q.bad) (fun _ _ => q.bad)
      (fun i off hs => stO_ok hH fun H' hH' hst => hg _ _ H' hH' (key _ _ hs hst) (rel_setD h d rfl)) (fun i ver j off hs => stA_ok hH fun H' hH' hst => hg _ _ H' hH' (key _ _ hs hst) (rel_setD h d rfl))
  · exact q.bad

noncomputable def oSt1 (a v : Opd) : Oc S S J := (fun cl κ kr e H => onK ((opd S v).run e) (oSt 1 a v cl κ kr e H) (adK (opn a) ((opd S a).run e) .bad
  (fun s off => lvR S s e .bad fun c => setK ((opd S v).run e) .bad c off fun c' => κ ((upC S s).run e (.lv c')) H) (fun _ => .bad)
  (fun i off => @ZH.rec (fun _ => FR) (fun nx ro bl => @Bool.rec (fun _ => FR) .bad (obK i .bad (fun c => setK ((opd S v).run e) .bad c off fun c' => κ e ⟨nx, ro, sO i c' bl⟩) bl) (Nat.ble ro i)) H)
  (fun i ver j off => hK H fun nx ro bl => @Bool.rec (fun _ => FR) .bad (arK i .bad (fun nl z len c => ifB (Nat.beq len ver) .bad (nthZ .bad (fun y => agK y
      (onK y .bad (@Nat.rec (fun _ => FR) (setK ((opd S v).run e) .bad c j fun c' => κ e ⟨nx, ro, sA i nl z len c' bl⟩) (fun _ _ => .bad) off))
      (fun cy => setK ((opd S v).run e) .bad cy off fun cy' => setK (.ag cy') .bad c j fun c' => κ e ⟨nx, ro, sA i nl z len c' bl⟩)) c j)) bl) (Nat.ble ro i))))
theorem putElem_agg {cs : List AV} {off : Nat} {v : AV} (h : off < cs.length) : putElem (.agg cs) off [v] = .agg (cs.set off v) := by
  unfold putElem
  by_cases hh : (AV.agg cs).cells.length = [v].length ∧ off = 0
  · rw [if_pos hh]
    obtain ⟨h1, rfl⟩ := hh
    have h1' : cs.length = 1 := h1
    match cs, h1' with
    | [z], _ => rfl
  · rw [if_neg hh, set_putAt h]; rfl
theorem oSt1_ok (d : Option Nat) (a v : Opd) : OcOK d (.st 1 a v) (oSt1 (S := S) (J := J) a v) := fun cl c hcl e x H κ kr q hH h hg hpn => by
  unfold oSt1
  refine onK_ok (P := fun r => Agr r q) (oSt_ok d 1 a v cl c hcl e x H κ kr q hH h hg hpn) fun hp h1 => ?_
  have hv := opd_val h v _ hp
  have hc1 := one_cells h1
  generalize (opd S v).run e = vv at *
  have key : ∀ x' H', stS x H.heap [vv.av] (x.sl a) = some (x', H') → opS c d x H.heap (.st 1 a v) = some (.go .nrm x' H') := fun x' H' hs => by
    simp only [opS, hv, hc1, List.length_singleton, if_true, hs]
  refine adK_ok (P := fun r => Agr r q) (opd_dle h a) q.bad (fun t off hs => lvR_ok h q.bad fun c' hc' => setK_ok _ q.bad c' off _ fun w hl hw => ?_) (fun _ _ => q.bad) (fun i off hs => ?_) (fun i ver j off hs => ?_)
  · refine hg _ ((t, .lv (putAt c'.cl off [vv.av])) :: x) H hH (key _ _ ?_) (rel_up h t (by show Sl.lv _ = .lv w.cl; rw [hw, set_putAt hl]))
    have hl' : off + [vv.av].length ≤ c'.cl.length := hl
    rw [hs]; simp only [stS, hc', hl', if_true]
  · show Agr (@Bool.rec (fun _ => FR) .bad (obK i .bad (fun c => setK vv .bad c off fun c' => κ e ⟨H.next, H.ro, sO i c' H.bl⟩) H.bl) (Nat.ble H.ro i)) q
    cases hb : Nat.ble H.ro i with
    | false => exact q.bad
    | true =>
      have h3 : ¬ i < H.heap.ro := Nat.not_lt.2 (Nat.le_of_ble_eq_true hb)
      refine obK_ok (P := fun r => Agr r q) q.bad _ hH fun c' hc' => setK_ok _ q.bad c' off _ fun w hl hw => hg _ x _ (sO_ok hH) (key _ _ ?_) h
      have h2 : H.heap.get i = some (.obj c'.cl) := hc'
      have hl' : off + [vv.av].length ≤ c'.cl.length := hl
      rw [hs]; simp only [stS, h3, if_false, h2, hl', if_true, heap_obj, hw, set_putAt hl]
  · rw [hK_eq]
    cases hb : Nat.ble H.ro i with
    | false => exact q.bad
    | true =>
      have h3 : ¬ i < H.heap.ro := Nat.not_lt.2 (Nat.le_of_ble_eq_true hb)
      refine arK_ok (P := fun r => Agr r q) q.bad _ hH fun nl z c' hc' => ?_
      have h2 : H.heap.get i = some (.arr nl z c'.cl) := hc'
      rw [ifB_beq]
      split
      · rename_i hlen
        refine nthZ_ok (P := fun r => Agr r q) q.bad c' j fun y hy => ?_
        have fin : ∀ (u w : V), u.av = putElem y.av off [vv.av] → off + 1 ≤ y.av.cells.length → w.cl = c'.cl.set j u.av → Agr (κ e ⟨H.next, H.ro, sA i nl z c'.cl.length w H.bl⟩) q := fun u w hu ho hw => by
          refine hg _ x _ (sA_ok (by rw [hw, List.length_set]) hH) (key _ _ ?_) h
          have ho' : off + [vv.av].length ≤ y.av.cells.length := ho
          rw [hs]; simp only [stS, h3, if_false, h2, hlen, if_true, hy, ho', heap_arr, hw, hu]
        have plain : Agr (onK y .bad (@Nat.rec (fun _ => FR) (setK vv .bad c' j fun c2 => κ e ⟨H.next, H.ro, sA i nl z c'.cl.length c2 H.bl⟩) (fun _ _ => .bad) off)) q := by
          refine onK_ok (P := fun r => Agr r q) q.bad fun _ hy1 => ?_
          cases off with
          | succ o => exact q.bad
          | zero =>
            refine setK_ok _ q.bad c' j _ fun w hl hw => fin vv w ?_ (by rw [one_cells hy1]; exact Nat.le_refl _) hw
            simp only [putElem, one_cells hy1, List.length_singleton, and_self, if_true]
            split
            · rename_i l hl2; rw [hl2] at hy1; cases hy1
            · rfl
        cases y with
        | ag cy =>
          refine setK_ok _ q.bad cy off _ fun cy' hl1 hcy' => setK_ok _ q.bad c' j _ fun w hl hw => fin (.ag cy') w ?_ hl1 hw
          show AV.agg cy'.cl = putElem (.agg cy.cl) off [vv.av]
          rw [hcy', putElem_agg hl1]
        | _ => exact plain
      · exact q.bad

/-! ### append and its like -/
noncomputable def elZ (H : ZH) (sz : Nat) (v : V) (k : V → FR) : FR := slcK' v (sK v .bad fun l n => ifB (Nat.beq sz 1) .bad (k (.run 2 l (up8 l n) .nil))) (fun _ c => ifB (allC sz c) .bad (k c)) (k .nil)
  fun id ver lo len => arK id .bad (fun _ z l c => ifB (Nat.beq z sz) .bad (ifB (Nat.beq l ver) .bad (ifB (Nat.ble (Nat.add lo len) ver) .bad (k (takeC (dropC c lo) len))))) H.bl
theorem elZ_ok {q : Pr} {H : ZH} (hH : H.ok) {sz : Nat} {v : V} {r : Option AV} (hv : v.val r) {k : V → FR} (hk : ∀ a ys, r = some a → elemsOf H.heap sz a = some ys.cl → Agr (k ys) q) : Agr (elZ H sz v k) q := by
  refine slcK'_ok (P := fun r => Agr r q) hv (sK_ok (P := fun r => Agr r q) hv q.bad fun l n hs => ?_) (fun nl c hc => ifB_ok (P := fun r => Agr r q) q.bad fun ha => hk _ c hc ?_) (fun hc => hk _ .nil hc rfl) (fun id ver lo len hc => arK_ok (P := fun r => Agr r q) q.bad _ hH fun nl z c hz => ?_)
  · rw [ifB_beq]
    split
    · rename_i h1
      refine hk _ _ hs ?_
      simp only [elemsOf, h1, if_true, V.cl, List.append_nil, up8_eq]
    · exact q.bad
  · simp only [elemsOf, allC_ok sz c ha, if_true]
  · rw [ifB_beq, ifB_beq, ifB_ble]
    by_cases h1 : z = sz
    · by_cases h2 : c.cl.length = ver
      · by_cases h3 : Nat.add lo len ≤ ver
        · rw [if_pos h1, if_pos h2, if_pos h3]
          refine hk _ _ hc ?_
          have h4 : H.heap.get id = some (.arr nl z c.cl) := hz
          have h3' : lo + len ≤ ver := h3
          simp only [elemsOf, h4, h1, h2, h3', and_self, if_true, takeC_eq, dropC_eq]
        · rw [if_pos h1, if_pos h2, if_neg h3]; exact q.bad
      · rw [if_pos h1, if_neg h2]; exact q.bad
    · rw [if_neg h1]; exact q.bad
noncomputable def apZ (H : ZH) (sz : Nat) (u ys : V) (ny : Nat) (k : V → ZH → FR) : FR := slcK' u .bad
  (fun nl c => @Bool.rec (fun _ => FR) .bad (nilF (ifB (Nat.ble ny 1073741824) .bad (nwA H (Nat.beq ny 0) sz ny ys fun i H' => k (.ms i ny 0 ny) H')) c) nl)
  (@Nat.rec (fun _ => FR) (k .c0 H) (fun _ _ => ifB (Nat.ble ny 1073741824) .bad (nwA H false sz ny ys fun i H' => k (.ms i ny 0 ny) H')) ny)
  (fun id ver lo len => hK H fun nx ro bl => ifB (Nat.ble ro id) .bad (arK id .bad (fun n z l c => ifB (Nat.beq z sz) .bad (ifB (Nat.beq l ver) .bad (ifB (Nat.ble (Nat.add l ny) 1073741824) .bad
    (@Bool.rec (fun _ => FR)
      (ifB (Nat.ble (Nat.add (Nat.add lo len) ny) ver) .bad (k (.ms id ver lo (Nat.add len ny)) ⟨nx, ro, sA id n z l (appC (appC (dropC c (Nat.add (Nat.add lo len) ny)) ys) (takeC c (Nat.add lo len))) bl⟩))
      (k (.ms id (Nat.add ver ny) 0 (Nat.add len ny)) ⟨nx, ro, sA id (ifB (Nat.beq ny 0) false n) z (Nat.add l ny) (appC ys c) bl⟩)
      (ifB (Nat.beq lo 0) false (Nat.beq len ver)))))) bl))
theorem apZ_ok {q : Pr} {H : ZH} (hH : H.ok) {sz : Nat} {u ys : V} {r : Option AV} (hu : u.val r) {x : AV} (hys : elemsOf H.heap sz x = some ys.cl) {k : V → ZH → FR}
    (hk : ∀ b w H', H'.ok → r = some b → appS H.heap sz b x = some (w.av, H'.heap) → w.pv = some w.av → Agr (k w H') q) : Agr (apZ H sz u ys ys.cl.length k) q := by
  refine slcK'_ok (P := fun r => Agr r q) hu q.bad (fun nl c hc => ?_) (fun hc => ?_) (fun id ver lo len hc => ?_)
  · cases nl with
    | false => exact q.bad
    | true =>
      refine nilF_ok fun he => ?_
      rw [he] at hc
      rw [ifB_ble, nwA_eq]
      split
      · rename_i h1
        refine hk _ (.ms H.next ys.cl.length 0 ys.cl.length) _ (sA_ok rfl hH) hc ?_ rfl
        have h1' : ys.cl.length ≤ mostLen := h1
        simp only [appS, hys, h1', if_true, heap_new_arr, beq_dec]
        have : decide (ys.cl.length = 0) = ys.cl.isEmpty := by cases ys.cl <;> simp
        rw [this]; rfl
      · exact q.bad
  · have e : ∀ k1 k2 : FR, (ys.cl.length = 0 → Agr k1 q) → (ys.cl.length ≠ 0 → Agr k2 q) → Agr (@Nat.rec (fun _ => FR) k1 (fun _ _ => k2) ys.cl.length) q := fun k1 k2 h1 h2 => by
      cases hn : ys.cl.length with
      | zero => exact h1 hn
      | succ n => exact h2 (by omega)
    refine e _ _ (fun h0 => hk _ .c0 H hH hc ?_ rfl) (fun h0 => ?_)
    · have h1 : ys.cl = [] := List.eq_nil_of_length_eq_zero h0
      rw [h1] at hys
      simp only [appS, hys, List.length_nil, Nat.zero_le, if_true, List.isEmpty_nil]; rfl
    · rw [ifB_ble, nwA_eq]
      split
      · rename_i h1
        refine hk _ (.ms H.next ys.cl.length 0 ys.cl.length) _ (sA_ok rfl hH) hc ?_ rfl
        have h1' : ys.cl.length ≤ mostLen := h1
        have h2 : ys.cl.isEmpty = false := by cases hy : ys.cl <;> simp [hy] at h0 ⊢
        simp only [appS, hys, h1', if_true, h2, Bool.false_eq_true, if_false, heap_new_arr]; rfl
      · exact q.bad
  · rw [hK_eq, ifB_ble]
    split
    · rename_i h0
      have h0' : ¬ id < H.heap.ro := Nat.not_lt.2 h0
      refine arK_ok (P := fun r => Agr r q) q.bad _ hH fun n z c hz => ?_
      rw [ifB_beq, ifB_beq, ifB_ble]
      have h4 : H.heap.get id = some (.arr n z c.cl) := hz
      by_cases h1 : z = sz
      · by_cases h2 : c.cl.length = ver
        · by_cases h3 : Nat.add c.cl.length ys.cl.length ≤ 1073741824
          · rw [if_pos h1, if_pos h2, if_pos h3]
            have h3' : c.cl.length + ys.cl.length ≤ mostLen := h3
            cases hb : ifB (Nat.beq lo 0) false (Nat.beq len ver) with
            | false =>
              have hb' : ¬ (lo = 0 ∧ len = ver) := fun hh => by
                rw [ifB_beq, if_pos hh.1, hh.2, beq_dec] at hb; simp at hb
              show Agr (ifB (Nat.ble (Nat.add (Nat.add lo len) ys.cl.length) ver) .bad _) q
              rw [ifB_ble]
              split
              · rename_i h5
                have h5' : lo + len + ys.cl.length ≤ ver := h5
                refine hk _ (.ms id ver lo (Nat.add len ys.cl.length)) _ (sA_ok ?_ hH) hc ?_ rfl
                · rw [appC_eq, appC_eq, takeC_eq, dropC_eq]
                  simp only [List.length_append, List.length_take, List.length_drop]
                  show _ = min (lo + len) c.cl.length + (ys.cl.length + (c.cl.length - (lo + len + ys.cl.length)))
                  omega
                · simp only [appS, hys, h0', if_false, h4, h1, h2, true_and]
                  rw [← h2, if_pos h3', h2, if_neg hb', if_pos h5', heap_arr, appC_eq, appC_eq, takeC_eq, dropC_eq, List.append_assoc]; rfl
              · exact q.bad
            | true =>
              have hb' : lo = 0 ∧ len = ver := by
                rw [ifB_beq] at hb
                split at hb
                · rename_i hlo; exact ⟨hlo, Nat.eq_of_beq_eq_true hb⟩
                · cases hb
              refine hk _ (.ms id (Nat.add ver ys.cl.length) 0 (Nat.add len ys.cl.length)) _ (sA_ok ?_ hH) hc ?_ rfl
              · rw [appC_eq, List.length_append]; rfl
              · simp only [appS, hys, h0', if_false, h4, h1, h2, true_and]
                rw [← h2, if_pos h3', h2, if_pos hb', heap_arr, appC_eq]
                have : ifB (Nat.beq ys.cl.length 0) false n = (n && ys.cl.isEmpty) := by
                  rw [ifB_beq]
                  cases hy : ys.cl <;> simp
                rw [this]; rfl
          · rw [if_pos h1, if_pos h2, if_neg h3]; exact q.bad
        · rw [if_pos h1, if_neg h2]; exact q.bad
      · rw [if_neg h1]; exact q.bad
    · exact q.bad
noncomputable def oApp (d : Option Nat) (sz : Nat) (b v : Opd) : Oc S (dS d S) J := (fun _ κ _ e H => elZ H sz ((opd S v).run e) fun ys => apZ H sz ((opd S b).run e) ys (lenC ys) fun w H' => κ (setD d e w) H')
theorem oApp_ok (d : Option Nat) (sz : Nat) (b v : Opd) : OcOK d (.app sz b v) (oApp (S := S) (J := J) d sz b v) := fun cl c hcl e x H κ kr q hH h hg _ => by
  unfold oApp
  refine elZ_ok hH (opd_val h v) fun a ys ha hys => ?_
  rw [lenC_eq]
  refine apZ_ok hH (opd_val h b) hys fun u w H' hH' hu hr hp => hg _ (setDst d (.v w.av) x) H' hH' ?_ (rel_setD h d (pv_den hp))
  simp only [opS, hu, ha, hr]
noncomputable def oApz (d : Option Nat) (sz : Nat) (z : AV) (b n : Opd) : Oc S (dS d S) J := (fun _ κ _ e H => slcK' ((opd S b).run e) .bad (fun nl c => @Bool.rec (fun _ => FR) .bad (nilF (iK ((opd S n).run e) .bad fun m =>
  ifB (Nat.ble 9223372036854775809 m) .bad (ifB (Nat.ble (Nat.sub m 9223372036854775808) 1073741824) .bad (ifB (Nat.beq z.cells.length sz) .bad
    (nwA H false sz (Nat.sub m 9223372036854775808) (repC (Nat.sub m 9223372036854775808) (ofAV z)) fun i H' => κ (setD d e (.ms i (Nat.sub m 9223372036854775808) 0 (Nat.sub m 9223372036854775808))) H')))) c) nl) .bad fun _ _ _ _ => .bad)
theorem oApz_ok (d : Option Nat) (sz : Nat) (z : AV) (b n : Opd) : OcOK d (.apz sz z b n) (oApz (S := S) (J := J) d sz z b n) := fun cl c hcl e x H κ kr q hH h hg _ => by
  unfold oApz
  refine slcK'_ok (P := fun r => Agr r q) (opd_val h b) q.bad (fun nl c' hc => ?_) (fun _ => q.bad) (fun _ _ _ _ _ => q.bad)
  cases nl with
  | false => exact q.bad
  | true =>
    refine nilF_ok fun he => ?_
    rw [he] at hc
    refine iK_ok (P := fun r => Agr r q) (opd_val h n) q.bad fun m hm => ?_
    rw [ifB_ble, ifB_ble, ifB_beq]
    split
    · rename_i h1
      split
      · rename_i h2
        split
        · rename_i h3
          rw [nwA_eq]
          obtain ⟨u, rfl⟩ := Nat.exists_eq_add_of_le h1
          have e1 : Nat.sub (9223372036854775809 + u) 9223372036854775808 = u + 1 := by show 9223372036854775809 + u - 9223372036854775808 = _; omega
          rw [e1] at h2 ⊢
          have e2 : (((9223372036854775809 + u : Nat) : Int) - 9223372036854775808) = ((u + 1 : Nat) : Int) := by omega
          rw [e2] at hm
          refine hg _ (setDst d (.v (.ms H.next (u + 1) 0 (u + 1))) x) _ (sA_ok (by rw [repC_eq, List.length_replicate]) hH) ?_ (rel_setD h d rfl)
          have h2' : u + 1 ≤ 1073741824 := h2
          simp only [opS, hc, hm]
          rw [if_pos ⟨by omega, by simp only [mostLen]; omega, h3⟩, heap_new_arr, repC_eq, (ofAV_pv z).2, Int.toNat_natCast]; rfl
        · exact q.bad
      · exact q.bad
    · exact q.bad
noncomputable def oMks (d : Option Nat) (sz : Nat) (z : AV) (n : Opd) : Oc S (dS d S) J := (fun _ κ _ e H => nnZ ((opd S n).run e) .bad fun m => ifB (Nat.ble m 1073741824) .bad (ifB (Nat.beq z.cells.length sz) .bad
    (nwA H false sz m (repC m (ofAV z)) fun i H' => κ (setD d e (.ms i m 0 m)) H')))
theorem oMks_ok (d : Option Nat) (sz : Nat) (z : AV) (n : Opd) : OcOK d (.mks sz z n) (oMks (S := S) (J := J) d sz z n) := fun cl c hcl e x H κ kr q hH h hg _ => by
  unfold oMks
  refine nnZ_ok (opd_val h n) q.bad fun k m hm => ?_
  rw [ifB_ble, ifB_beq]
  split
  · rename_i h2
    split
    · rename_i h3
      rw [nwA_eq]
      refine hg _ (setDst d (.v (.ms H.next m 0 m)) x) _ (sA_ok (by rw [repC_eq, List.length_replicate]) hH) ?_ (rel_setD h d rfl)
      have h2' : m ≤ 1073741824 := h2
      simp only [opS, hm]
      rw [if_pos ⟨by omega, by simp only [mostLen]; omega, h3⟩, heap_new_arr, repC_eq, (ofAV_pv z).2, Int.toNat_natCast]; rfl
    · exact q.bad
  · exact q.bad
noncomputable def oMkm (d : Option Nat) (z : AV) (n : Nat) (ps : List (Nat × Opd)) : Oc S (dS d S) J := (fun _ κ _ e H => (mkC S z.cells.length n ps).run e (repC n (ofAV z)) fun c => nwA H false z.cells.length (lenC c) c fun i H' => κ (setD d e (.ms i (lenC c) 0 (lenC c))) H')
theorem oMkm_ok (d : Option Nat) (z : AV) (n : Nat) (ps : List (Nat × Opd)) : OcOK d (.mkm z n ps) (oMkm (S := S) (J := J) d z n ps) := fun cl c hcl e x H κ kr q hH h hg _ => by
  unfold oMkm
  have hc : (repC n (ofAV z)).cl = List.replicate n z := by rw [repC_eq, (ofAV_pv z).2]
  refine mkC_ok h ps (fun y hy => ?_) (by rw [hc, List.length_replicate]) fun w vs hvs hw => ?_
  · rw [hc] at hy; rw [List.eq_of_mem_replicate hy]
  · rw [hc] at hw
    rw [nwA_eq, lenC_eq]
    refine hg _ (setDst d (.v (.ms H.next w.cl.length 0 w.cl.length)) x) _ (sA_ok rfl hH) ?_ (rel_setD h d rfl)
    simp only [opS, hvs, hw, heap_new_arr]; rfl
noncomputable def oCpy (d : Option Nat) (sz : Nat) (a b : Opd) : Oc S (dS d S) J := (fun _ κ _ e H => slcK' ((opd S a).run e) .bad (fun _ _ => .bad) .bad fun id ver lo len => hK H fun nx ro bl => ifB (Nat.ble ro id) .bad (elZ H sz ((opd S b).run e) fun ys => arK id .bad (fun n z l c =>
  ifB (Nat.beq z sz) .bad (ifB (Nat.beq l ver) .bad (ifB (Nat.ble (Nat.add lo len) ver) .bad
    (κ (setD d e (.i (Nat.add (zMin len (lenC ys)) 9223372036854775808))) ⟨nx, ro, sA id n z l (appC (appC (dropC c (Nat.add lo (zMin len (lenC ys)))) (takeC ys (zMin len (lenC ys)))) (takeC c lo)) bl⟩)))) bl))
theorem oCpy_ok (d : Option Nat) (sz : Nat) (a b : Opd) : OcOK d (.cpy sz a b) (oCpy (S := S) (J := J) d sz a b) := fun cl c hcl e x H κ kr q hH h hg _ => by
  unfold oCpy
  refine slcK'_ok (P := fun r => Agr r q) (opd_val h a) q.bad (fun _ _ _ => q.bad) (fun _ => q.bad) (fun id ver lo len hc => ?_)
  rw [hK_eq, ifB_ble]
  split
  · rename_i h0
    have h0' : ¬ id < H.heap.ro := Nat.not_lt.2 h0
    refine elZ_ok hH (opd_val h b) fun y ys hy hys => arK_ok (P := fun r => Agr r q) q.bad _ hH fun n z c' hz => ?_
    have h4 : H.heap.get id = some (.arr n z c'.cl) := hz
    rw [ifB_beq, ifB_beq, ifB_ble, zMin_eq, lenC_eq]
    by_cases h1 : z = sz
    · by_cases h2 : c'.cl.length = ver
      · by_cases h3 : Nat.add lo len ≤ ver
        · rw [if_pos h1, if_pos h2, if_pos h3]
          have h3' : lo + len ≤ ver := h3
          refine hg _ (setDst d (.v (i64 (min len ys.cl.length : Nat))) x) _ (sA_ok ?_ hH) ?_ (rel_setD h d ?_)
          · rw [appC_eq, appC_eq, takeC_eq, takeC_eq, dropC_eq]
            simp only [List.length_append, List.length_take, List.length_drop]
            show _ = min lo c'.cl.length + (min (min len ys.cl.length) ys.cl.length + (c'.cl.length - (lo + min len ys.cl.length)))
            omega
          · simp only [opS, hc, hy, h0', if_false, hys, h4, h1, h2, h3', and_self, if_true]
            rw [heap_arr, appC_eq, appC_eq, takeC_eq, takeC_eq, dropC_eq, List.append_assoc]; rfl
          · show Sl.v _ = Sl.v (V.av _); rw [toI]
        · rw [if_pos h1, if_pos h2, if_neg h3]; exact q.bad
      · rw [if_pos h1, if_neg h2]; exact q.bad
    · rw [if_neg h1]; exact q.bad
  · exact q.bad
noncomputable def oClr (d : Option Nat) (sz : Nat) (z : AV) (a : Opd) : Oc S (dS d S) J := (fun _ κ _ e H => slcK' ((opd S a).run e) .bad (fun _ _ => .bad) .bad fun id ver lo len => hK H fun nx ro bl => ifB (Nat.ble ro id) .bad (arK id .bad (fun n w l c =>
  ifB (Nat.beq w sz) .bad (ifB (Nat.beq z.cells.length sz) .bad (ifB (Nat.beq l ver) .bad (ifB (Nat.ble (Nat.add lo len) ver) .bad
    (κ (setD d e (.tu .nil)) ⟨nx, ro, sA id n w l (appC (appC (dropC c (Nat.add lo len)) (repC len (ofAV z))) (takeC c lo)) bl⟩))))) bl))
theorem oClr_ok (d : Option Nat) (sz : Nat) (z : AV) (a : Opd) : OcOK d (.clr sz z a) (oClr (S := S) (J := J) d sz z a) := fun cl c hcl e x H κ kr q hH h hg _ => by
  unfold oClr
  refine slcK'_ok (P := fun r => Agr r q) (opd_val h a) q.bad (fun _ _ _ => q.bad) (fun _ => q.bad) (fun id ver lo len hc => ?_)
  rw [hK_eq, ifB_ble]
  split
  · rename_i h0
    have h0' : ¬ id < H.heap.ro := Nat.not_lt.2 h0
    refine arK_ok (P := fun r => Agr r q) q.bad _ hH fun n w c' hz => ?_
    have h4 : H.heap.get id = some (.arr n w c'.cl) := hz
    rw [ifB_beq, ifB_beq, ifB_beq, ifB_ble]
    by_cases h1 : w = sz
    · by_cases h5 : z.cells.length = sz
      · by_cases h2 : c'.cl.length = ver
        · by_cases h3 : Nat.add lo len ≤ ver
          · rw [if_pos h1, if_pos h5, if_pos h2, if_pos h3]
            have h3' : lo + len ≤ ver := h3
            refine hg _ (setDst d (.v (.tup [])) x) _ (sA_ok ?_ hH) ?_ (rel_setD h d rfl)
            · rw [appC_eq, appC_eq, takeC_eq, repC_eq, dropC_eq]
              simp only [List.length_append, List.length_take, List.length_drop, List.length_replicate]
              show _ = min lo c'.cl.length + (len + (c'.cl.length - (lo + len)))
              omega
            · simp only [opS, hc, h0', if_false, h4, h1, h5, h2, h3', and_self, if_true]
              rw [heap_arr, appC_eq, appC_eq, takeC_eq, repC_eq, dropC_eq, List.append_assoc, (ofAV_pv z).2]; rfl
          · rw [if_pos h1, if_pos h5, if_pos h2, if_neg h3]; exact q.bad
        · rw [if_pos h1, if_pos h5, if_neg h2]; exact q.bad
      · rw [if_pos h1, if_neg h5]; exact q.bad
    · rw [if_neg h1]; exact q.bad
  · exact q.bad
noncomputable def oThaw (sz s : Nat) : Oc S (s :: S) J := (fun _ κ _ e H => slcK' ((acc S s).run e) .bad (fun nl c => @Bool.rec (fun _ => FR) .bad (nilF (nwA H true sz 0 .nil fun i H' => κ (E.cons s (.ms i 0 0 0) e) H') c) nl) .bad fun _ _ _ _ => .bad)
theorem acc_val {e : E S} {x : Env} (h : Rel S e x) (s : Nat) : ((acc S s).run e).val (x.av (.t s)) := opd_val h (.t s)
theorem oThaw_ok (d : Option Nat) (sz s : Nat) : OcOK d (.thaw sz s) (oThaw (S := S) (J := J) sz s) := fun cl c hcl e x H κ kr q hH h hg _ => by
  unfold oThaw
  have hd := get_den h s
  revert hd
  show _ → Agr (slcK' ((acc S s).run e) .bad _ .bad _) q
  generalize (acc S s).run e = v
  intro hd
  cases v <;> try exact q.bad
  rename_i nl c'
  cases nl with
  | false => exact q.bad
  | true =>
    refine nilF_ok fun he => ?_
    rw [nwA_eq]
    have hd' : x.get s = .v (.list true []) := by have h1 : x.get s = .v (.list true c'.cl) := hd; rw [he] at h1; exact h1
    refine hg _ ((s, .v (.ms H.next 0 0 0)) :: x) _ (sA_ok rfl hH) ?_ (rel_cons h s rfl)
    simp only [opS, hd', heap_new_arr]; rfl

/-! ### arrays that become slices that are written no more -/
noncomputable def fcd (f : Fz) : Nat := @Fz.casesOn (fun _ => Nat) f 0 (fun _ => 1) (fun _ _ _ => 2)
noncomputable def fzA (cd : Nat) (f : ZH → V → (V → ZH → FR) → FR) : V → ZH → (V → ZH → FR) → FR := clRec (fun H k => k .nil H) (fun h _ ih H k => f H h fun y H1 => ih H1 fun ys H2 => k (.one y ys) H2) (fun q l n _ ih H k => ifB (Nat.beq cd 1) .bad (ih H fun ys H2 => k (.run q l n ys) H2))
noncomputable def fzS (cd : Nat) (ih : ZH → V → (V → ZH → FR) → FR) (H : ZH) (v : V) (k : V → ZH → FR) : FR := slcK' v .bad (fun n c => k (.li n c) H) (k .c0 H)
  fun id ver lo len => hK H fun nx ro bl => ifB (Nat.ble ro id) .bad (arK id .bad (fun n _ l c => ifB (Nat.beq l ver) .bad (ifB (Nat.ble (Nat.add lo len) ver) .bad
    (@Nat.rec (fun _ => FR) (k (.li n (takeC (dropC c lo) len)) ⟨nx, ro, sN id bl⟩) (fun _ _ => fzA cd ih (takeC (dropC c lo) len) ⟨nx, ro, sN id bl⟩ fun ys H' => k (.li n ys) H') cd))) bl)
noncomputable def fzZ : Fz → ZH → V → (V → ZH → FR) → FR := @Fz.rec (fun _ => ZH → V → (V → ZH → FR) → FR) (fun H v k => vK v .bad (k v H)) (fun f ih => fzS (fcd f) ih)
  (fun i _ _ ihf ihr H v k => agK v .bad fun c => nthZ .bad (fun y => ihf H y fun y' H1 => onK y .bad (onK y' .bad (ihr H1 (.ag (setC y' c i)) k))) c i)
def FzOK (q : Pr) (f : Fz) : Prop := ∀ (H : ZH) (v : V) (k : V → ZH → FR), H.ok → (∀ (w : V) H', H'.ok → fzV f H.heap v.av = some (w.av, H'.heap) → w.pv = some w.av → Agr (k w H') q) → Agr (fzZ f H v k) q
theorem fz_digs {f : Fz} {q : Nat} : ∀ (l n : Nat) (H : Heap) (t : List AV) (r : List AV) (H' : Heap), fzAll (fzV (.sl f)) H t = some (r, H') → fzAll (fzV (.sl f)) H (digs q l n ++ t) = some (digs q l n ++ r, H')
  | 0, _, _, _, _, _, h => h
  | l + 1, n, H, t, r, H', h => by
    have ih := fz_digs (q := q) l (n / 18446744073709551616) H t r H' h
    have e : fzV (.sl f) H (scal q (n % 18446744073709551616)) = some (scal q (n % 18446744073709551616), H) := by
      match q with
      | 0 => simp only [scal, fzV]
      | 1 => simp only [scal, fzV]
      | q + 2 => simp only [scal, fzV]
    simp only [digs, List.cons_append, fzAll, e, ih]
theorem fzA_ok {q : Pr} {f : Fz} (hf : FzOK q f) : ∀ (c : V) (H : ZH) (k : V → ZH → FR), H.ok → (∀ (ys : V) H', H'.ok → fzAll (fzV f) H.heap c.cl = some (ys.cl, H'.heap) → Agr (k ys H') q) → Agr (fzA (fcd f) (fzZ f) c H k) q := by
  intro c
  refine cl_cases (P := fun c => ∀ (H : ZH) (k : V → ZH → FR), H.ok → (∀ (ys : V) H', H'.ok → fzAll (fzV f) H.heap c.cl = some (ys.cl, H'.heap) → Agr (k ys H') q) → Agr (fzA (fcd f) (fzZ f) c H k) q) (fun h t ih H k hH hk => ?_) (fun k0 l n t ih H k hH hk => ?_) (fun v h0 h1 H k hH hk => ?_) c
  · refine hf H h _ hH fun w H1 hH1 hw hp => ih H1 _ hH1 fun ys H2 hH2 hys => hk _ H2 hH2 ?_
    simp only [V.cl, fzAll, hw, hys]
  · show Agr (ifB (Nat.beq (fcd f) 1) .bad (fzA (fcd f) (fzZ f) t H fun ys H2 => k (.run k0 l n ys) H2)) q
    rw [ifB_beq]
    split
    · rename_i h1
      refine ih H _ hH fun ys H2 hH2 hys => hk _ H2 hH2 ?_
      cases f with
      | no => cases h1
      | ag i f r => cases h1
      | sl f => simp only [V.cl]; exact fz_digs l n _ _ _ _ hys
    · exact q.bad
  · have : fzA (fcd f) (fzZ f) v H k = k .nil H := congrFun (congrFun (h0 (fun (H : ZH) (k : V → ZH → FR) => k .nil H) _ _) H) k
    rw [this]
    refine hk .nil H hH ?_
    rw [h1]; rfl
theorem fzZ_ok (q : Pr) : ∀ f : Fz, FzOK q f
  | .no => fun H v k hH hk => vK_ok (P := fun r => Agr r q) q.bad fun hp => hk v H hH rfl hp
  | .sl f => fun H v k hH hk => by
    have hv : v.val v.pv := fun a ha => ha
    refine slcK'_ok (P := fun r => Agr r q) hv q.bad (fun n c hc => hk (.li n c) H hH ?_ rfl) (fun hc => hk .c0 H hH ?_ rfl) (fun id ver lo len hc => ?_)
    · rw [(V.pv_sl hc).2.1]; simp only [fzV]; rfl
    · rw [(V.pv_sl hc).2.1]; simp only [fzV]; rfl
    · rw [hK_eq, ifB_ble]
      split
      · rename_i h0
        have h0' : ¬ id < H.heap.ro := Nat.not_lt.2 h0
        refine arK_ok (P := fun r => Agr r q) q.bad _ hH fun n z c hz => ?_
        have h4 : H.heap.get id = some (.arr n z c.cl) := hz
        have hH1 : ZH.ok ⟨H.next, H.ro, sN id H.bl⟩ := sN_ok hH
        rw [ifB_beq, ifB_ble]
        by_cases h2 : c.cl.length = ver
        · by_cases h3 : Nat.add lo len ≤ ver
          · rw [if_pos h2, if_pos h3]
            have h3' : lo + len ≤ ver := h3
            have hel : (takeC (dropC c lo) len).cl = (c.cl.drop lo).take len := by rw [takeC_eq, dropC_eq]
            have deep : ∀ f', f' = f → f' ≠ .no → Agr (fzA (fcd f) (fzZ f) (takeC (dropC c lo) len) ⟨H.next, H.ro, sN id H.bl⟩ fun ys H' => k (.li n ys) H') q := fun f' hf' hn => by
              refine fzA_ok (fzZ_ok q f) _ _ _ hH1 fun ys H' hH' hys => hk (.li n ys) H' hH' ?_ rfl
              rw [(V.pv_sl hc).2.1]
              rw [hel, heap_del] at hys
              subst hf'
              simp only [fzV, h0', if_false, h4, h2, h3', and_self, if_true, hys]
              cases f' with
              | no => exact absurd rfl hn
              | _ => rfl
            cases f with
            | no =>
              refine hk (.li n (takeC (dropC c lo) len)) _ hH1 ?_ rfl
              rw [(V.pv_sl hc).2.1]
              simp only [fzV, h0', if_false, h4, h2, h3', and_self, if_true, heap_del]
              show _ = some (AV.list n (takeC (dropC c lo) len).cl, _)
              rw [hel]
            | sl f => exact deep _ rfl (fun h => by cases h)
            | ag i f r => exact deep _ rfl (fun h => by cases h)
          · rw [if_pos h2, if_neg h3]; exact q.bad
        · rw [if_neg h2]; exact q.bad
      · exact q.bad
  | .ag i f r => fun H v k hH hk => by
    have hv : v.val v.pv := fun a ha => ha
    refine agK_ok (P := fun r => Agr r q) hv q.bad fun c hc => nthZ_ok (P := fun r => Agr r q) q.bad c i fun y hy => fzZ_ok q f H y _ hH fun w H1 hH1 hw hp => onK_ok (P := fun r => Agr r q) q.bad fun _ h1 => onK_ok (P := fun r => Agr r q) q.bad fun _ h2 => fzZ_ok q r H1 _ _ hH1 fun w2 H2 hH2 hw2 hp2 => hk w2 H2 hH2 ?_ hp2
    rw [(V.pv_sl hc).2.1]
    simp only [V.av, setC_eq] at hw2
    simp only [fzV, hy, hw, h1, h2, Bool.and_self, if_true, hw2]
noncomputable def oFrz (f : Fz) (s : Nat) : Oc S (s :: S) J := (fun _ κ _ e H => frK ((acc S s).run e) (fun v => fzZ f H v fun y H' => κ (E.cons s y e) H') (fun c => fzZ f H (.ag c) fun y H' => agK y .bad fun ds => κ (E.cons s (.lv ds) e) H'))
where frK (v : V) (fv : V → FR) (fl : V → FR) : FR := lvK' v (vK v .bad (fv v)) fl
theorem oFrz_ok (d : Option Nat) (f : Fz) (s : Nat) : OcOK d (.frz f s) (oFrz (S := S) (J := J) f s) := fun cl c hcl e x H κ kr q hH h hg _ => by
  have hd := get_den h s
  unfold oFrz
  revert hd
  generalize (acc S s).run e = v
  intro hd
  have plain : v.pv = some v.av → Agr (fzZ f H v fun y H' => κ (E.cons s y e) H') q := fun hp => by
    have hs := (V.pv_sl hp).2.2.1 _ hd
    refine fzZ_ok q f H v _ hH fun w H' hH' hw hpw => hg _ ((s, .v w.av) :: x) H' hH' ?_ (rel_cons h s (pv_den hpw))
    simp only [opS, hs, hw]
  have vcase : Agr (vK v .bad (fzZ f H v fun y H' => κ (E.cons s y e) H')) q := vK_ok (P := fun r => Agr r q) q.bad plain
  cases v with
  | lv c' =>
    have hs : x.get s = .lv c'.cl := hd
    refine fzZ_ok q f H (.ag c') _ hH fun w H' hH' hw hpw => agK_ok (P := fun r => Agr r q) (r := w.pv) (fun a ha => ha) q.bad fun ds hds => hg _ ((s, .lv ds.cl) :: x) H' hH' ?_ (rel_cons h s rfl)
    have hw' : w.av = .agg ds.cl := (V.pv_sl hds).2.1
    rw [hw'] at hw
    have hw2 : fzV f H.heap (.agg c'.cl) = some (.agg ds.cl, H'.heap) := hw
    simp only [opS, hs, hw2]
  | _ => exact vcase

/-! ### calls -/
noncomputable def reK (d : Option Nat) (κ : E (dS d S) → ZH → FR) (kr : KR J) (e : E S) (r : FR) : FR := @FR.rec (fun _ => FR) (fun v H' => κ (setD d e v) H') (fun v H' => kr.p v ((nrmC S J).run e) H') .bad r
theorem reK_ok {d : Option Nat} {κ : E (dS d S) → ZH → FR} {kr : KR J} {e : E S} {x : Env} (h : Rel S e x) {q : Pr} {r : FR} {cr : Option CRes} (hr : Agf r cr) {o : Option Out}
    (ho : ∀ v H', cr = some (.ret v H') → o = some (.go .nrm (setDst d (.v v) x) H')) (ho2 : ∀ v H', cr = some (.pan v H') → o = some (.pan v x H')) (hg : Go1 κ q o) (hp : Pan1 kr q o) : Agr (reK d κ kr e r) q := by
  cases r with
  | ret v H' => exact hg _ _ H' hr.2.1 (ho _ _ hr.1) (rel_setD h d (pv_den hr.2.2))
  | pan v H' => exact hp v _ x H' hr.2.1 (ho2 _ _ hr.1) hr.2.2 (rel_nrm h J)
  | bad => exact q.bad
noncomputable def oCall (d : Option Nat) (f : Nat) (args : List Opd) : Oc S (dS d S) J := (fun cl κ kr e H => (argC S args).run e fun w => reK d κ kr e (cl f w H))
theorem oCall_ok (d : Option Nat) (f : Nat) (args : List Opd) : OcOK d (.call f args) (oCall (S := S) (J := J) d f args) := fun cl c hcl e x H κ kr q hH h hg hp => by
  unfold oCall
  refine argC_ok h args fun w vs hvs hw => reK_ok h (hcl f w H hH) (fun v H' hr => ?_) (fun v H' hr => ?_) hg hp
  · rw [hw] at hr; simp only [opS, hvs, hr]
  · rw [hw] at hr; simp only [opS, hvs, hr]
noncomputable def saK {S' : List Nat} (e : E S') (H : ZH) (c : Nat × Nat × Bool × Opd) (k : FR) : FR := adK 0 ((opd S' c.2.2.2).run e) .bad (fun _ _ => .bad)
  (fun y => vK ((acc S' c.1).run e) .bad (ldZ S' c.2.1 c.2.2.1 0 (.im y) e H fun z => ifB (AV.same z.av ((acc S' c.1).run e).av) .bad k))
  (fun i o => vK ((acc S' c.1).run e) .bad (ldZ S' c.2.1 c.2.2.1 0 (.pt i o) e H fun z => ifB (AV.same z.av ((acc S' c.1).run e).av) .bad k))
  (fun i v j o => vK ((acc S' c.1).run e) .bad (ldZ S' c.2.1 c.2.2.1 0 (.ap i v j o) e H fun z => ifB (AV.same z.av ((acc S' c.1).run e).av) .bad k))
theorem saK_ok {S' : List Nat} {e : E S'} {x : Env} (h : Rel S' e x) {H : ZH} (hH : H.ok) {c : Nat × Nat × Bool × Opd} {k : FR} {q : Pr} (hk : sameLd x H.heap c = true → Agr k q) : Agr (saK e H c k) q := by
  obtain ⟨s, sz, ag, o⟩ := c
  have key : ∀ (y : V) (a : AV), x.sl o = .v a → y.pv = some a → Agr (vK ((acc S' s).run e) .bad (ldZ S' sz ag 0 y e H fun z => ifB (AV.same z.av ((acc S' s).run e).av) .bad k)) q := fun y a ha hy => by
    refine vK_ok (P := fun r => Agr r q) q.bad fun hp => ldZ_ok (s := .v a) h hH ?_ fun z hz _ => ifB_ok (P := fun r => Agr r q) q.bad fun hs => hk ?_
    · have := (V.pv_sl hy).1
      cases y <;> first | trivial | (simp only [V.dle, V.sle, this]) | cases hy
    · have h1 := (V.pv_sl hp).2.2.1 _ (get_den h s)
      simp only [sameLd, ha, h1, hz, hs]
  have hd := opd_dle h o
  unfold saK
  simp only
  revert hd
  generalize (opd S' o).run e = v
  intro hd
  cases v with
  | im y => exact key (.im y) _ hd rfl
  | pt i o => exact key (.pt i o) _ hd rfl
  | ap i w j o => exact key (.ap i w j o) _ hd rfl
  | _ => exact q.bad
noncomputable def sasK {S' : List Nat} (e : E S') (H : ZH) (k : FR) : List (Nat × Nat × Bool × Opd) → FR := @List.rec (Nat × Nat × Bool × Opd) (fun _ => FR) k (fun c _ ih => saK e H c ih)
theorem sasK_ok {S' : List Nat} {e : E S'} {x : Env} (h : Rel S' e x) {H : ZH} (hH : H.ok) {k : FR} {q : Pr} : ∀ (cs : List (Nat × Nat × Bool × Opd)), (cs.all (sameLd x H.heap) = true → Agr k q) → Agr (sasK e H k cs) q
  | [], hk => hk rfl
  | c :: cs, hk => saK_ok h hH fun h1 => sasK_ok h hH cs fun h2 => hk (by simp only [List.all_cons, h1, h2, Bool.and_self])
noncomputable def oCallc (d : Option Nat) (f : Nat) (args : List Opd) (cs : List (Nat × Nat × Bool × Opd)) : Oc S (dS d S) J := (fun cl κ _ e H => (argC S args).run e fun w => @FR.rec (fun _ => FR) (fun v H' => sasK (setD d e v) H' (κ (setD d e v) H') cs) (fun _ _ => .bad) .bad (cl f w H))
theorem oCallc_ok (d : Option Nat) (f : Nat) (args : List Opd) (cs : List (Nat × Nat × Bool × Opd)) : OcOK d (.callc f args cs) (oCallc (S := S) (J := J) d f args cs) := fun cl c hcl e x H κ kr q hH h hg hp => by
  unfold oCallc
  refine argC_ok h args fun w vs hvs hw => ?_
  have hr := hcl f w H hH
  revert hr
  generalize cl f w H = r
  intro hr
  cases r with
  | ret v H' =>
    have hrel := rel_setD h d (pv_den hr.2.2)
    refine sasK_ok hrel hr.2.1 cs fun hall => hg _ _ H' hr.2.1 ?_ hrel
    have h1 := hr.1
    rw [hw] at h1
    simp only [opS, hvs, h1, hall, if_true]
  | pan v H' => exact q.bad
  | bad => exact q.bad
noncomputable def oCallv (d : Option Nat) (f : Opd) (args : List Opd) : Oc S (dS d S) J := (fun cl κ kr e H => fnK' ((opd S f).run e) .bad fun g cap => (argC S args).run e fun w => reK d κ kr e (cl g (appC cap w) H))
theorem oCallv_ok (d : Option Nat) (f : Opd) (args : List Opd) : OcOK d (.callv f args) (oCallv (S := S) (J := J) d f args) := fun cl c hcl e x H κ kr q hH h hg hp => by
  unfold oCallv
  refine fnK'_ok (P := fun r => Agr r q) (opd_val h f) q.bad fun g cap hf => argC_ok h args fun w vs hvs hw => reK_ok h (hcl g (appC cap w) H hH) (fun v H' hr => ?_) (fun v H' hr => ?_) hg hp
  · rw [appC_eq, hw] at hr; simp only [opS, hf, hvs, hr]
  · rw [appC_eq, hw] at hr; simp only [opS, hf, hvs, hr]
noncomputable def oPan (v : Opd) : Oc S S J := (fun _ _ kr e H => fcK ((opd S v).run e) .bad (fun t y => kr.p (.fc t y) ((nrmC S J).run e) H) .bad)
theorem oPan_ok (d : Option Nat) (v : Opd) : OcOK d (.pan v) (oPan (S := S) (J := J) v) := fun cl c hcl e x H κ kr q hH h hg hp => by
  unfold oPan
  refine fcK_ok (P := fun r => Agr r q) (opd_val h v) q.bad (fun t y hy => hp (.fc t y) _ x H hH ?_ rfl (rel_nrm h J)) (fun _ => q.bad)
  simp only [opS, hy]; rfl
noncomputable def oBad (S S' J : List Nat) : Oc S S' J := (fun _ _ _ _ _ => .bad)
theorem oBad_ok (S S' J : List Nat) (d : Option Nat) (op : AOp) : OcOK d op (oBad S S' J) := fun _ _ _ _ _ _ _ _ q _ _ _ _ => q.bad
end

def outS (i : AInstr) (S : List Nat) : List Nat := match i.op with
  | .st _ _ _ => S
  | .frz _ s => s :: S
  | .thaw _ s => s :: S
  | .pan _ => S
  | _ => dS i.dst S
section
variable {S J : List Nat}
noncomputable def oMkmp (d : Option Nat) : Oc S (dS d S) J := (fun _ κ _ e H => hK H fun nx ro bl => κ (setD d e (.x (.mp nx))) ⟨Nat.succ nx, ro, sM nx .nil bl⟩)
theorem oMkmp_ok (d : Option Nat) : OcOK d .mkmp (oMkmp (S := S) (J := J) d) := fun cl c hcl e x H κ kr q hH h hg _ => by
  unfold oMkmp
  rw [hK_eq]
  refine hg _ (setDst d (.v (.mp H.next)) x) _ (sM_ok rfl hH) ?_ (rel_setD h d rfl)
  have := heap_new_mp H .nil
  show _ = some (Out.go .nrm _ (ZH.heap ⟨H.next + 1, H.ro, sM H.next .nil H.bl⟩))
  rw [this]; rfl
noncomputable def oMpu (d : Option Nat) (n : Nat) (m k v : Opd) : Oc S (dS d S) J := (fun _ κ _ e H => mpK ((opd S m).run e) .bad fun id => koK n ((opd S k).run e) (vK ((opd S v).run e) .bad (vK ((opd S k).run e) .bad (hK H fun nx ro bl => ifB (Nat.ble ro id) .bad (mpB id .bad (fun c =>
  mfC n ((opd S k).run e) (κ (setD d e .un) ⟨nx, ro, sM id (snC (.one ((opd S k).run e) (.one ((opd S v).run e) .nil)) c) bl⟩)
    (fun j _ => κ (setD d e .un) ⟨nx, ro, sM id (setC ((opd S v).run e) (setC ((opd S k).run e) c (Nat.mul 2 j)) (Nat.succ (Nat.mul 2 j))) bl⟩) c 0 0) bl)))))
theorem oMpu_ok (d : Option Nat) (n : Nat) (m k v : Opd) : OcOK d (.mpu n m k v) (oMpu (S := S) (J := J) d n m k v) := fun cl c hcl e x H κ kr q hH h hg _ => by
  unfold oMpu
  refine mpK_ok (P := fun r => Agr r q) (opd_val h m) q.bad fun id hid => koK_ok (opd_val h k) fun y hy hko => vK_ok (P := fun r => Agr r q) q.bad fun hpv => vK_ok (P := fun r => Agr r q) q.bad fun hpk => ?_
  rw [hK_eq, ifB_ble]
  split
  · rename_i h0
    have h0' : H.heap.ro ≤ id := h0
    have hv := opd_val h v _ hpv
    have hk := opd_val h k _ hpk
    have hky : ((opd S k).run e).av = y := by rw [hk] at hy; exact Option.some.inj hy
    refine mpB_ok (P := fun r => Agr r q) q.bad _ hH fun c' he hc => (mfC_ok (x := y) (by rw [← hy]; exact opd_val h k) hko c' 0).1 fun r hr => ?_
    have hgt : H.heap.get id = some (.map (prs c'.cl)) := hc
    cases r with
    | none =>
      refine hg _ (setDst d .un x) _ (sM_ok ?_ hH) ?_ (rel_setD h d rfl)
      · rw [snC_eq]; simp only [V.cl, List.length_append, List.length_cons, List.length_nil]; omega
      · rw [heap_mp, snC_eq]
        simp only [V.cl]
        rw [prs_app _ _ _ he, hky]
        simp only [opS, hid, hy, hv, hko, h0', and_self, if_true, hgt, hr]
    | some p =>
      obtain ⟨j, z⟩ := p
      intro u hu hp
      refine hg _ (setDst d .un x) _ (sM_ok ?_ hH) ?_ (rel_setD h d rfl)
      · rw [setC_eq, setC_eq]; simpa using he
      · rw [heap_mp, setC_eq, setC_eq]
        have := prs_set c'.cl j ((opd S k).run e).av ((opd S v).run e).av
        have e1 : Nat.mul 2 j = 2 * j := rfl
        rw [e1, show Nat.succ (2 * j) = 2 * j + 1 from rfl, this, hky]
        simp only [opS, hid, hy, hv, hko, h0', and_self, if_true, hgt, hr]
  · exact q.bad
end
noncomputable def opC (S J : List Nat) (d : Option Nat) : (op : AOp) → Oc S (outS ⟨d, op, none⟩ S) J
  | .alv cs => match d with
    | some s => oAlv s cs
    | none => oBad _ _ _
  | .blv sz x => match d with
    | some s => oBlv s sz x
    | none => oBad _ _ _
  | .aob cs => oAob d cs
  | .bob sz x => oBob d sz x
  | .st sz a v => bif Nat.beq sz 1 then oSt1 a v else oSt sz a v
  | .sto sz a v => oSto d sz a v
  | .app sz b x => oApp d sz b x
  | .apz sz z b n => oApz d sz z b n
  | .mks sz z n => oMks d sz z n
  | .mkm z n ps => oMkm d z n ps
  | .cpy sz x y => oCpy d sz x y
  | .clr sz z x => oClr d sz z x
  | .mkmp => oMkmp d
  | .rmc m x y => oPv d (pRmc m x y)
  | .chk x y => oPv d (pChk x y)
  | .mpu n m k v => oMpu d n m k v
  | .mpl n z ok m k => oPv d (pMpl n z ok m k)
  | .sts sz a v => oPv d (pSts sz a v)
  | .thaw sz s => oThaw sz s
  | .frz f s => oFrz f s
  | .call f args => oCall d f args
  | .callc f args cs => oCallc d f args cs
  | .callv f args => oCallv d f args
  | .pan x => oPan x
  | .bad => oBad _ _ _
  | .mv x => oPv d (pMv x)
  | .pick c a b => oPv d (pPick c a b)
  | .bin op x y => oPv d (pBin op x y)
  | .eq neg k x y => oPv d (pEq neg k x y)
  | .un op x => oPv d (pUn op x)
  | .cvi k x => oPv d (pCvi k x)
  | .cvb x => oPv d (pCvb x)
  | .cvs x => oPv d (pCvs x)
  | .cvl x => oPv d (pCvl x)
  | .mkl z n ps => oPv d (pMkl z n ps)
  | .bld z ps => oPv d (pBld z ps)
  | .fa off sz ag a => oPv d (pFa off sz ag a)
  | .ia n sz ag a i => oPv d (pIa n sz ag a i)
  | .ix sz x i => oPv d (pIx sz x i)
  | .ld sz ag a => oPv d (pLd sz ag a)
  | .ldl sz ag s => oPv d (pLdl sz ag s)
  | .ldi sz ag a => oPv d (pLdi sz ag a)
  | .ldp sz ag a => oPv d (pLdp sz ag a)
  | .ldo sz ag a => oPv d (pLdo sz ag a)
  | .ixl sz x i => oPv d (pIxl sz x i)
  | .fld off sz ag x => oPv d (pFld off sz ag x)
  | .ixa n sz ag x i => oPv d (pIxa n sz ag x i)
  | .ixs x i => oPv d (pIxs x i)
  | .len x => oPv d (pLen x)
  | .lns x => oPv d (pLns x)
  | .cap x => oPv d (pCap x)
  | .sl sz x lo hi mx => oPv d (pSl sz x lo hi mx)
  | .ss x lo hi => oPv d (pSs x lo hi)
  | .ext i x => oPv d (pExt i x)
  | .mkif t x => oPv d (pMkif t x)
  | .tas t z ok x => oPv d (pTas t z ok x)
  | .mkfn f cap => oPv d (pMkfn f cap)
  | .nilc x => oPv d (pNilc x)
  | .mnmx mx x y => oPv d (pMnmx mx x y)
  | .bim sz x => oPv d (pBim sz x)
  | .sla n a lo hi => oPv d (pSla n a lo hi)
  | .nat k args => oPv d (pNat k args)
  | .st0 a v => oPv d (pSt0 a v)
theorem opC_ok (S J : List Nat) (d : Option Nat) (op : AOp) : OcOK d op (opC S J d op) := by
  cases op with
  | alv cs => cases d with
    | none => exact oBad_ok _ _ _ _ _
    | some s => exact oAlv_ok s cs
  | blv sz x => cases d with
    | none => exact oBad_ok _ _ _ _ _
    | some s => exact oBlv_ok s sz x
  | aob cs => exact oAob_ok d cs
  | bob sz x => exact oBob_ok d sz x
  | st sz a v =>
    show OcOK d (.st sz a v) (bif Nat.beq sz 1 then oSt1 a v else oSt sz a v)
    cases h : Nat.beq sz 1 with
    | true =>
      obtain rfl := Nat.eq_of_beq_eq_true h
      exact oSt1_ok d a v
    | false => exact oSt_ok d sz a v
  | sto sz a v => exact oSto_ok d sz a v
  | app sz b x => exact oApp_ok d sz b x
  | apz sz z b n => exact oApz_ok d sz z b n
  | mks sz z n => exact oMks_ok d sz z n
  | mkm z n ps => exact oMkm_ok d z n ps
  | cpy sz x y => exact oCpy_ok d sz x y
  | clr sz z x => exact oClr_ok d sz z x
  | mkmp => exact oMkmp_ok d
  | rmc m x y => exact oPv_ok (pRmc_ok m x y) fun _ _ _ => rfl
  | chk x y => exact oPv_ok (pChk_ok x y) fun _ _ _ => rfl
  | mpu n m k v => exact oMpu_ok d n m k v
  | mpl n z ok m k => exact oPv_ok (pMpl_ok n z ok m k) fun _ _ _ => rfl
  | sts sz a v => exact oPv_ok (pSts_ok sz a v) fun _ _ _ => rfl
  | thaw sz s => exact oThaw_ok d sz s
  | frz f s => exact oFrz_ok d f s
  | call f args => exact oCall_ok d f args
  | callc f args cs => exact oCallc_ok d f args cs
  | callv f args => exact oCallv_ok d f args
  | pan x => exact oPan_ok d x
  | bad => exact oBad_ok _ _ _ _ _
  | mv x => exact oPv_ok (pMv_ok x) fun _ _ _ => rfl
  | pick c a b => exact oPv_ok (pPick_ok c a b) fun _ _ _ => rfl
  | bin op x y => exact oPv_ok (pBin_ok op x y) fun _ _ _ => rfl
  | eq neg k x y => exact oPv_ok (pEq_ok neg k x y) fun _ _ _ => rfl
  | un op x => exact oPv_ok (pUn_ok op x) fun _ _ _ => rfl
  | cvi k x => exact oPv_ok (pCvi_ok k x) fun _ _ _ => rfl
  | cvb x => exact oPv_ok (pCvb_ok x) fun _ _ _ => rfl
  | cvs x => exact oPv_ok (pCvs_ok x) fun _ _ _ => rfl
  | cvl x => exact oPv_ok (pCvl_ok x) fun _ _ _ => rfl
  | mkl z n ps => exact oPv_ok (pMkl_ok z n ps) fun _ _ _ => rfl
  | bld z ps => exact oPv_ok (pBld_ok z ps) fun _ _ _ => rfl
  | fa off sz ag a => exact oPv_ok (pFa_ok off sz ag a) fun _ _ _ => rfl
  | ia n sz ag a i => exact oPv_ok (pIa_ok n sz ag a i) fun _ _ _ => rfl
  | ix sz x i => exact oPv_ok (pIx_ok sz x i) fun _ _ _ => rfl
  | ld sz ag a => exact oPv_ok (pLd_ok sz ag a) fun _ _ _ => rfl
  | ldl sz ag s => exact oPv_ok (pLdl_ok sz ag s) fun _ _ _ => rfl
  | ldi sz ag a => exact oPv_ok (pLdi_ok sz ag a) fun _ _ _ => rfl
  | ldp sz ag a => exact oPv_ok (pLdp_ok sz ag a) fun _ _ _ => rfl
  | ldo sz ag a => exact oPv_ok (pLdo_ok sz ag a) fun _ _ _ => rfl
  | ixl sz x i => exact oPv_ok (pIxl_ok sz x i) fun _ _ _ => rfl
  | fld off sz ag x => exact oPv_ok (pFld_ok off sz ag x) fun _ _ _ => rfl
  | ixa n sz ag x i => exact oPv_ok (pIxa_ok n sz ag x i) fun _ _ _ => rfl
  | ixs x i => exact oPv_ok (pIxs_ok x i) fun _ _ _ => rfl
  | len x => exact oPv_ok (pLen_ok x) fun _ _ _ => rfl
  | lns x => exact oPv_ok (pLns_ok x) fun _ _ _ => rfl
  | cap x => exact oPv_ok (pCap_ok x) fun _ _ _ => rfl
  | sl sz x lo hi mx => exact oPv_ok (pSl_ok sz x lo hi mx) fun _ _ _ => rfl
  | ss x lo hi => exact oPv_ok (pSs_ok x lo hi) fun _ _ _ => rfl
  | ext i x => exact oPv_ok (pExt_ok i x) fun _ _ _ => rfl
  | mkif t x => exact oPv_ok (pMkif_ok t x) fun _ _ _ => rfl
  | tas t z ok x => exact oPv_ok (pTas_ok t z ok x) fun _ _ _ => rfl
  | mkfn f cap => exact oPv_ok (pMkfn_ok f cap) fun _ _ _ => rfl
  | nilc x => exact oPv_ok (pNilc_ok x) fun _ _ _ => rfl
  | mnmx mx x y => exact oPv_ok (pMnmx_ok mx x y) fun _ _ _ => rfl
  | bim sz x => exact oPv_ok (pBim_ok sz x) fun _ _ _ => rfl
  | sla n a lo hi => exact oPv_ok (pSla_ok n a lo hi) fun _ _ _ => rfl
  | nat k args => exact oPv_ok (pNat_ok k args) fun _ _ _ => rfl
  | st0 a v => exact oPv_ok (pSt0_ok a v) fun _ _ _ => rfl

/-! ### an operation, and what goes on behind it -/
structure Os (S S' J : List Nat) where
  run : ZCaller → (E S' → ZH → FR) → KR J → E S → ZH → FR
noncomputable def pvN {S S2 J : List Nat} (d : Option Nat) (p : Pv S) (nx : Os (dS d S) S2 J) : Os S S2 J := match d, nx with
  | some s, nx => ⟨fun cl κ kr e H => p e H fun w => nx.run cl κ kr (E.cons s w e) H⟩
  | none, nx => ⟨fun cl κ kr e H => p e H fun _ => nx.run cl κ kr e H⟩
noncomputable def ocN {S S' S2 J : List Nat} (oc : Oc S S' J) (nx : Os S' S2 J) : Os S S2 J := ⟨fun cl κ kr e H => oc cl (fun e' H' => nx.run cl κ kr e' H') kr e H⟩
noncomputable def opO (S J S2 : List Nat) (d : Option Nat) : (op : AOp) → Os (outS ⟨d, op, none⟩ S) S2 J → Os S S2 J
  | .alv cs, nx => match d, nx with
    | some s, nx => ocN (oAlv s cs) nx
    | none, _ => ⟨fun _ _ _ _ _ => .bad⟩
  | .blv sz x, nx => match d, nx with
    | some s, nx => ocN (oBlv s sz x) nx
    | none, _ => ⟨fun _ _ _ _ _ => .bad⟩
  | .aob cs, nx => ocN (oAob d cs) nx
  | .bob sz x, nx => ocN (oBob d sz x) nx
  | .st sz a v, nx => bif Nat.beq sz 1 then ocN (oSt1 a v) nx else ocN (oSt sz a v) nx
  | .sto sz a v, nx => ocN (oSto d sz a v) nx
  | .app sz b x, nx => ocN (oApp d sz b x) nx
  | .apz sz z b n, nx => ocN (oApz d sz z b n) nx
  | .mks sz z n, nx => ocN (oMks d sz z n) nx
  | .mkm z n ps, nx => ocN (oMkm d z n ps) nx
  | .cpy sz x y, nx => ocN (oCpy d sz x y) nx
  | .clr sz z x, nx => ocN (oClr d sz z x) nx
  | .mkmp, nx => ocN (oMkmp d) nx
  | .rmc m x y, nx => pvN d (pRmc m x y) nx
  | .chk x y, nx => pvN d (pChk x y) nx
  | .mpu n m k v, nx => ocN (oMpu d n m k v) nx
  | .mpl n z ok m k, nx => pvN d (pMpl n z ok m k) nx
  | .sts sz a v, nx => pvN d (pSts sz a v) nx
  | .thaw sz s, nx => ocN (oThaw sz s) nx
  | .frz f s, nx => ocN (oFrz f s) nx
  | .call f args, nx => ocN (oCall d f args) nx
  | .callc f args cs, nx => ocN (oCallc d f args cs) nx
  | .callv f args, nx => ocN (oCallv d f args) nx
  | .pan x, nx => ocN (oPan x) nx
  | .bad, nx => ocN (oBad _ _ _) nx
  | .mv x, nx => pvN d (pMv x) nx
  | .pick c a b, nx => pvN d (pPick c a b) nx
  | .bin op x y, nx => pvN d (pBin op x y) nx
  | .eq neg k x y, nx => pvN d (pEq neg k x y) nx
  | .un op x, nx => pvN d (pUn op x) nx
  | .cvi k x, nx => pvN d (pCvi k x) nx
  | .cvb x, nx => pvN d (pCvb x) nx
  | .cvs x, nx => pvN d (pCvs x) nx
  | .cvl x, nx => pvN d (pCvl x) nx
  | .mkl z n ps, nx => pvN d (pMkl z n ps) nx
  | .bld z ps, nx => pvN d (pBld z ps) nx
  | .fa off sz ag a, nx => pvN d (pFa off sz ag a) nx
  | .ia n sz ag a i, nx => pvN d (pIa n sz ag a i) nx
  | .ix sz x i, nx => pvN d (pIx sz x i) nx
  | .ld sz ag a, nx => pvN d (pLd sz ag a) nx
  | .ldl sz ag s, nx => pvN d (pLdl sz ag s) nx
  | .ldi sz ag a, nx => pvN d (pLdi sz ag a) nx
  | .ldp sz ag a, nx => pvN d (pLdp sz ag a) nx
  | .ldo sz ag a, nx => pvN d (pLdo sz ag a) nx
  | .ixl sz x i, nx => pvN d (pIxl sz x i) nx
  | .fld off sz ag x, nx => pvN d (pFld off sz ag x) nx
  | .ixa n sz ag x i, nx => pvN d (pIxa n sz ag x i) nx
  | .ixs x i, nx => pvN d (pIxs x i) nx
  | .len x, nx => pvN d (pLen x) nx
  | .lns x, nx => pvN d (pLns x) nx
  | .cap x, nx => pvN d (pCap x) nx
  | .sl sz x lo hi mx, nx => pvN d (pSl sz x lo hi mx) nx
  | .ss x lo hi, nx => pvN d (pSs x lo hi) nx
  | .ext i x, nx => pvN d (pExt i x) nx
  | .mkif t x, nx => pvN d (pMkif t x) nx
  | .tas t z ok x, nx => pvN d (pTas t z ok x) nx
  | .mkfn f cap, nx => pvN d (pMkfn f cap) nx
  | .nilc x, nx => pvN d (pNilc x) nx
  | .mnmx mx x y, nx => pvN d (pMnmx mx x y) nx
  | .bim sz x, nx => pvN d (pBim sz x) nx
  | .sla n a lo hi, nx => pvN d (pSla n a lo hi) nx
  | .nat k args, nx => pvN d (pNat k args) nx
  | .st0 a v, nx => pvN d (pSt0 a v) nx
theorem pvN_eq {S S2 J : List Nat} (d : Option Nat) (p : Pv S) (nx : Os (dS d S) S2 J) : (pvN d p nx).run = (ocN (oPv d p) nx).run := by cases d <;> rfl
theorem opO_eq (S J S2 : List Nat) (d : Option Nat) (op : AOp) (nx : Os (outS ⟨d, op, none⟩ S) S2 J) : (opO S J S2 d op nx).run = fun cl κ kr e H => opC S J d op cl (fun e' H' => nx.run cl κ kr e' H') kr e H := by
  cases op with
  | alv cs => cases d <;> rfl
  | blv sz x => cases d <;> rfl
  | st sz a v =>
    show (bif Nat.beq sz 1 then ocN (oSt1 a v) nx else ocN (oSt sz a v) nx : Os S S2 J).run = fun cl κ kr e H => (bif Nat.beq sz 1 then oSt1 a v else oSt sz a v : Oc S S J) cl (fun e' H' => nx.run cl κ kr e' H') kr e H
    cases Nat.beq sz 1 <;> rfl
  | _ => first | rfl | exact pvN_eq d _ nx
end Ey

namespace Ey
open Go (IntKind FloatKind BinOp UnOp)

inductive An where
  | o
  | p (b : An)
  | g (x b : An) (J : List Nat)
  | h (x b : An) (J : List Nat)
  | s (a b : An) (J : List Nat)
  | c (a b : An)
  | b (a : An)
  | l (N : List Nat) (a : An)
  | d (a b : An) (N : List Nat)
  deriving Inhabited

def opsS' : List AInstr → List Nat → List Nat
  | [], S => S
  | i :: l, S => match i.guard with
    | none => opsS' l (outS ⟨i.dst, i.op, none⟩ S)
    | some _ => opsS' l (dS i.dst S)
noncomputable def opsC (J : List Nat) : (l : List AInstr) → (S : List Nat) → Os S (opsS' l S) J
  | [], _ => ⟨fun _ κ _ e H => κ e H⟩
  | ⟨d, op, none⟩ :: l, S => opO S J _ d op (opsC J l (outS ⟨d, op, none⟩ S))
  | ⟨d, op, some (s, w)⟩ :: l, S => ⟨fun cl κ kr e H => guK ((acc S s).run e) w .bad
      (opC S J d op cl (fun e' H' => (opsC J l (dS d S)).run cl κ kr ((nrmC (outS ⟨d, op, none⟩ S) (dS d S)).run e') H') kr e H)
      ((opsC J l (dS d S)).run cl κ kr (setD d e .un) H)⟩

theorem wanted_gu (x : Env) (s : Nat) (w : Bool) : wantedS x (some (s, w)) = guS (x.get s) w := by
  simp only [wantedS, guS]
  cases x.get s with
  | v y => cases y <;> rfl
  | _ => rfl
section
variable {Φ : Nat → Option AFn}
theorem opsC_ok {c : Caller} {cl : ZCaller} (hcl : AgrZ cl c) {J : List Nat} : ∀ (l : List AInstr) (S : List Nat) (e : E S) (x : Env) (H : ZH) (κ : E (opsS' l S) → ZH → FR) (kr : KR J) (q : Pr), H.ok → Rel S e x →
    Go1 κ q (opsS c l x H.heap) → Pan1 kr q (opsS c l x H.heap) → Agr ((opsC J l S).run cl κ kr e H) q
  | [], S, e, x, H, κ, kr, q, hH, h, hg, hp => hg e x H hH rfl h
  | ⟨d, op, none⟩ :: l, S, e, x, H, κ, kr, q, hH, h, hg, hp => by
    have hop := opC_ok S J d op cl c hcl e x H (fun e' H' => (opsC J l (outS ⟨d, op, none⟩ S)).run cl κ kr e' H') kr q hH h
    show Agr ((opO S J _ d op (opsC J l (outS ⟨d, op, none⟩ S))).run cl κ kr e H) q
    rw [opO_eq]
    refine hop (fun e' x' H' hH' ho hr => opsC_ok hcl l _ e' x' H' κ kr q hH' hr ?_ ?_) (fun v er x' H' hH' ho hv hr => hp v er x' H' hH' ?_ hv hr)
    · intro e2 x2 H2 hH2 ho2 hr2
      exact hg e2 x2 H2 hH2 (by simp only [opsS, wantedS, ho]; exact ho2) hr2
    · intro v er x2 H2 hH2 ho2 hv hr2
      exact hp v er x2 H2 hH2 (by simp only [opsS, wantedS, ho]; exact ho2) hv hr2
    · simp only [opsS, wantedS, ho]
  | ⟨d, op, some (s, w)⟩ :: l, S, e, x, H, κ, kr, q, hH, h, hg, hp => by
    refine guK_ok (P := fun r => Agr r q) (get_den h s) q.bad (fun hw => ?_) (fun hw => ?_)
    · have hw' : wantedS x (some (s, w)) = some true := (wanted_gu x s w).trans hw
      have hop := opC_ok S J d op cl c hcl e x H (fun e' H' => (opsC J l (dS d S)).run cl κ kr ((nrmC (outS ⟨d, op, none⟩ S) (dS d S)).run e') H') kr q hH h
      refine hop (fun e' x' H' hH' ho hr => opsC_ok hcl l _ _ x' H' κ kr q hH' (rel_nrm hr _) ?_ ?_) (fun v er x' H' hH' ho hv hr => hp v er x' H' hH' ?_ hv hr)
      · intro e2 x2 H2 hH2 ho2 hr2
        exact hg e2 x2 H2 hH2 (by simp only [opsS, hw', ho]; exact ho2) hr2
      · intro v er x2 H2 hH2 ho2 hv hr2
        exact hp v er x2 H2 hH2 (by simp only [opsS, hw', ho]; exact ho2) hv hr2
      · simp only [opsS, hw', ho]
    · have hw' : wantedS x (some (s, w)) = some false := (wanted_gu x s w).trans hw
      refine opsC_ok hcl l _ _ (setDst d .un x) H κ kr q hH (rel_setD h d rfl) ?_ ?_
      · intro e2 x2 H2 hH2 ho2 hr2
        exact hg e2 x2 H2 hH2 (by simp only [opsS, hw']; exact ho2) hr2
      · intro v er x2 H2 hH2 ho2 hv hr2
        exact hp v er x2 H2 hH2 (by simp only [opsS, hw']; exact ho2) hv hr2

/-! ### ends of blocks -/
def KX (Γ : List (Nat × List Nat)) : Type := @List.rec (Nat × List Nat) (fun _ => Type) PUnit (fun g _ T => (E g.2 → ZH → FR) × T) Γ
def KX.none : KX [] := PUnit.unit
def KX.cons {Γ : List (Nat × List Nat)} (i : Nat) {J : List Nat} (k : E J → ZH → FR) (kx : KX Γ) : KX ((i, J) :: Γ) := Prod.mk (α := E J → ZH → FR) (β := KX Γ) k kx
structure Ex' (Γ : List (Nat × List Nat)) (S : List Nat) where
  run : KX Γ → E S → ZH → FR
def exC (id : Nat) (S : List Nat) : (Γ : List (Nat × List Nat)) → Ex' Γ S
  | [] => ⟨fun _ _ _ => .bad⟩
  | (i, J) :: r => bif Nat.beq id i then ⟨fun kx e H => Prod.fst (α := E J → ZH → FR) (β := KX r) kx ((nrmC S J).run e) H⟩ else ⟨fun kx e H => (exC id S r).run (Prod.snd (α := E J → ZH → FR) (β := KX r) kx) e H⟩
def ExX {Γ : List (Nat × List Nat)} (kx : KX Γ) (q : Pr) (o : Option Out) : Prop := ∀ (id : Nat) (S : List Nat) (e : E S) (x : Env) (H : ZH), H.ok → o = some (.go (.exit id) x H.heap) → Rel S e x → Agr ((exC id S Γ).run kx e H) q
def RetX {J : List Nat} (kr : KR J) (q : Pr) (o : Option Out) : Prop := ∀ e' x' H', H'.ok → o = some (.go .ret x' H'.heap) → Rel J e' x' → Agr (kr.r e' H') q
theorem exX_cons {Γ : List (Nat × List Nat)} {kx : KX Γ} {q : Pr} {o o' : Option Out} (h : ExX kx q o) (i : Nat) {J : List Nat} {k : E J → ZH → FR}
    (hk : ∀ e' x' H', H'.ok → o' = some (.go (.exit i) x' H'.heap) → Rel J e' x' → Agr (k e' H') q) (ho : ∀ id x H, id ≠ i → o' = some (.go (.exit id) x H) → o = some (.go (.exit id) x H)) : ExX (KX.cons i k kx) q o' := by
  intro id S e x H hH ho' hr
  simp only [exC, beq_dec]
  by_cases hi : id = i
  · subst hi
    simp only [decide_true, cond_true]
    exact hk _ x H hH ho' (rel_nrm hr J)
  · simp only [hi, decide_false, cond_false]
    exact h id S e x H hH (ho id x H.heap hi ho') hr

/-! ### loops -/
def nosE : (N : List Nat) → E N
  | [] => E.none
  | s :: r => E.cons s .no (nosE r)
structure Kp (S S' : List Nat) where
  run : E S → (E S' → FR) → FR
noncomputable def kpC (S N : List Nat) : (keep : List Nat) → Kp S (keep ++ N)
  | [] => ⟨fun _ k => k (nosE N)⟩
  | s :: r => ⟨fun e k => keK ((acc S s).run e) fun v => (kpC S N r).run e fun t => k (E.cons s v t)⟩
theorem nosE_get : ∀ (N : List Nat) (s : Nat), getE N (nosE N) s = .no ∨ getE N (nosE N) s = .wh
  | [], _ => .inr rfl
  | a :: r, s => by
    simp only [getE]
    split
    · exact .inl rfl
    · exact nosE_get r s
theorem keepS_get : ∀ (l : List Nat) (e : Env) (s : Nat), (keepS l e).get s = if s ∈ l then (match e.get s with | .lp _ _ => .no | x => x) else .no
  | [], e, s => by simp [keepS, Env.get]
  | a :: l, e, s => by
    have ih := keepS_get l e s
    simp only [keepS, List.map_cons, Env.get] at ih ⊢
    by_cases h : s = a
    · subst h; simp only [if_true, List.mem_cons, true_or]; cases e.get s <;> rfl
    · simp only [h, if_false, List.mem_cons, false_or]; exact ih
theorem kpC_ok {S N : List Nat} {e : E S} {x : Env} (h : Rel S e x) {q : Pr} (keep : List Nat) {k : E (keep ++ N) → FR} (hk : ∀ e', Rel (keep ++ N) e' (keepS keep x) → Agr (k e') q) : Agr ((kpC S N keep).run e k) q := by
  have key : ∀ (l : List Nat) {k : E (l ++ N) → FR}, (∀ e', (∀ s, s ∈ l → (getE (l ++ N) e' s).den (match x.get s with | .lp _ _ => .no | y => y)) → (∀ s, s ∉ l → (getE (l ++ N) e' s = .no ∨ getE (l ++ N) e' s = .wh)) → Agr (k e') q) → Agr ((kpC S N l).run e k) q := by
    intro l
    induction l with
    | nil => exact fun hk => hk (nosE N) (fun s hs => by cases hs) (fun s _ => nosE_get N s)
    | cons a l ih =>
      intro k hk
      refine keK_ok (P := fun r => Agr r q) fun v hv => ih fun e' h1 h2 => hk _ (fun s hs => ?_) (fun s hs => ?_)
      · show (getE (a :: (l ++ N)) (E.cons a v e') s).den _
        simp only [getE]
        split
        · rename_i hsa
          subst hsa
          exact hv _ (get_den h s)
        · rename_i hsa
          exact h1 s (by simpa [hsa] using hs)
      · show getE (a :: (l ++ N)) (E.cons a v e') s = .no ∨ getE (a :: (l ++ N)) (E.cons a v e') s = .wh
        simp only [List.mem_cons, not_or] at hs
        simp only [getE, hs.1, if_false]
        exact h2 s hs.2
  refine key keep fun e' h1 h2 => hk e' fun s => ?_
  rw [keepS_get]
  by_cases hs : s ∈ keep
  · rw [if_pos hs]; exact h1 s hs
  · rw [if_neg hs]
    rcases h2 s hs with h3 | h3 <;> rw [h3]
    · rfl
    · trivial

/-! ### arguments -/
def iotN : Nat → Nat → List Nat → List Nat
  | 0, _, N => N
  | n + 1, i, N => i :: iotN n (i + 1) N
structure In (S : List Nat) where
  run : V → (E S → FR) → FR
noncomputable def inC (N : List Nat) : (n i : Nat) → In (iotN n i N)
  | 0, _ => ⟨fun w k => nxK w .bad (k (nosE N))⟩
  | n + 1, i => ⟨fun w k => unK w .bad fun h t => vK h .bad ((inC N n (i + 1)).run t fun e => k (E.cons i h e))⟩
theorem initEnv_lt : ∀ (vs : List AV) (i s : Nat), s < i → (initEnv i vs).get s = .no
  | [], _, _, _ => rfl
  | v :: r, i, s, h => by
    simp only [initEnv, Env.get]
    rw [if_neg (by omega)]
    exact initEnv_lt r (i + 1) s (by omega)
theorem initEnv_ge : ∀ (vs : List AV) (i s : Nat), i + vs.length ≤ s → (initEnv i vs).get s = .no
  | [], _, _, _ => rfl
  | v :: r, i, s, h => by
    simp only [List.length_cons] at h
    simp only [initEnv, Env.get]
    rw [if_neg (by omega)]
    exact initEnv_ge r (i + 1) s (by omega)
theorem inC_ok {q : Pr} {N : List Nat} : ∀ (n i : Nat) (w : V) {k : E (iotN n i N) → FR},
    (w.cl.length = n → ∀ e', (∀ s, i ≤ s → (getE (iotN n i N) e' s).den ((initEnv i w.cl).get s)) → (∀ s, s < i → (getE (iotN n i N) e' s = .no ∨ getE (iotN n i N) e' s = .wh)) → Agr (k e') q) → Agr ((inC N n i).run w k) q
  | 0, i, w, k, hk => nxK_ok (P := fun r => Agr r q) q.bad fun hw => hk (by rw [hw]; rfl) _ (fun s _ => by
      rw [hw]
      show (getE N (nosE N) s).den _
      rcases nosE_get N s with h | h <;> rw [h]
      · rfl
      · trivial) (fun s _ => nosE_get N s)
  | n + 1, i, w, k, hk => by
    refine unK_ok (P := fun r => Agr r q) q.bad fun h t hw => vK_ok (P := fun r => Agr r q) q.bad fun hp => inC_ok n (i + 1) t fun hl e' h1 h2 => ?_
    subst hw
    refine hk (by simp only [V.cl, List.length_cons, hl]) _ (fun s hs => ?_) (fun s hs => ?_)
    · simp only [V.cl, initEnv, Env.get, iotN, getE]
      by_cases hsi : s = i
      · rw [if_pos hsi, if_pos hsi]; exact pv_den hp
      · rw [if_neg hsi, if_neg hsi]; exact h1 s (by omega)
    · simp only [iotN, getE]
      rw [if_neg (by omega)]
      exact h2 s (by omega)
theorem inC_rel {q : Pr} {N : List Nat} (n : Nat) (w : V) {k : E (iotN n 0 N) → FR} (hk : w.cl.length = n → ∀ e', Rel (iotN n 0 N) e' (initEnv 0 w.cl) → Agr (k e') q) : Agr ((inC N n 0).run w k) q :=
  inC_ok n 0 w fun hl e' h1 _ => hk hl e' fun s => h1 s (Nat.zero_le _)

/-! ### code -/
structure Cl (S J : List Nat) (Γ : List (Nat × List Nat)) (Jr : List Nat) where
  run : ZCaller → (E J → ZH → FR) → KX Γ → KR Jr → E S → ZH → FR
noncomputable def clBad (S J : List Nat) (Γ : List (Nat × List Nat)) (Jr : List Nat) : Cl S J Γ Jr := ⟨fun _ _ _ _ _ _ => .bad⟩
noncomputable def KR.np {J : List Nat} (kr : KR J) : KR J := ⟨kr.r, fun _ _ _ => .bad⟩
noncomputable def lpZ {Sl : List Nat} (b : (E Sl → ZH → FR) → E Sl → ZH → FR) : Nat → E Sl → ZH → FR := @Nat.rec (fun _ => E Sl → ZH → FR) (fun _ _ => .bad) (fun _ ih e H => b ih e H)
noncomputable def comp (Jr : List Nat) : ACode → An → (S J : List Nat) → (Γ : List (Nat × List Nat)) → Cl S J Γ Jr
  | .skip, _, S, J, _ => ⟨fun _ κ _ _ e H => κ ((nrmC S J).run e) H⟩
  | .ops l, _, S, J, _ => ⟨fun cl κ _ kr e H => (opsC Jr l S).run cl (fun e' H' => κ ((nrmC (opsS' l S) J).run e') H') kr e H⟩
  | .dops l, _, S, J, _ => ⟨fun cl κ _ kr e H => (opsC Jr l S).run cl (fun e' H' => κ ((nrmC (opsS' l S) J).run e') H') kr.np e H⟩
  | .seq a b, an, S, J, Γ => match an with
    | .p bn => match a with
      | .ops l => ⟨fun cl κ kx kr e H => (opsC Jr l S).run cl (fun e' H' => (comp Jr b bn (opsS' l S) J Γ).run cl κ kx kr e' H') kr e H⟩
      | .dops l => ⟨fun cl κ kx kr e H => (opsC Jr l S).run cl (fun e' H' => (comp Jr b bn (opsS' l S) J Γ).run cl κ kx kr e' H') kr.np e H⟩
      | .skip => comp Jr b bn S J Γ
      | _ => clBad S J Γ Jr
    | .g xn bn J1 => match a with
      | .cond g .skip x => ⟨fun cl κ kx kr e H => bK ((opd S g).run e) .bad ((comp Jr b bn S J Γ).run cl κ kx kr e H) ((comp Jr x xn S J1 Γ).run cl (fun e' H' => (comp Jr b bn J1 J Γ).run cl κ kx kr e' H') kx kr e H)⟩
      | _ => clBad S J Γ Jr
    | .h xn bn J1 => match a with
      | .cond g x .skip => ⟨fun cl κ kx kr e H => bK ((opd S g).run e) .bad ((comp Jr x xn S J1 Γ).run cl (fun e' H' => (comp Jr b bn J1 J Γ).run cl κ kx kr e' H') kx kr e H) ((comp Jr b bn S J Γ).run cl κ kx kr e H)⟩
      | _ => clBad S J Γ Jr
    | .s an bn J1 => ⟨fun cl κ kx kr e H => (comp Jr a an S J1 Γ).run cl (fun e' H' => (comp Jr b bn J1 J Γ).run cl κ kx kr e' H') kx kr e H⟩
    | _ => clBad S J Γ Jr
  | .cond g a b, an, S, J, Γ => match an with
    | .c an bn => ⟨fun cl κ kx kr e H => bK ((opd S g).run e) .bad ((comp Jr a an S J Γ).run cl κ kx kr e H) ((comp Jr b bn S J Γ).run cl κ kx kr e H)⟩
    | _ => clBad S J Γ Jr
  | .block id a, an, S, J, Γ => match an with
    | .b an => ⟨fun cl κ kx kr e H => (comp Jr a an S J ((id, J) :: Γ)).run cl κ (KX.cons id κ kx) kr e H⟩
    | _ => clBad S J Γ Jr
  | .loop keep a, an, S, J, Γ => match an with
    | .l N an => ⟨fun cl _ kx kr e H => (kpC S N keep).run e fun e0 => lpZ (fun ih e1 H1 => (comp Jr a an (keep ++ N) keep Γ).run cl (fun e' H' => (kpC keep N keep).run e' fun e2 => ih e2 H') kx kr e1 H1) 1000000 e0 H⟩
    | _ => clBad S J Γ Jr
  | .exit id, _, S, _, Γ => ⟨fun _ _ kx _ e H => (exC id S Γ).run kx e H⟩
  | .ret, _, S, _, _ => ⟨fun _ _ _ kr e H => kr.r ((nrmC S Jr).run e) H⟩
  | .dfr s f cap rs body clo, an, S, J, Γ => match an with
    | .d an bn N => ⟨fun cl _ _ kr e H => (argC S cap).run e fun cs =>
      (fun (back : V → E Jr → ZH → FR) => (comp Jr body an (s :: S) Jr []).run cl (fun e' H' => back .nc e' H') KX.none ⟨fun e' H' => back .nc e' H', back⟩ (E.cons s (.fn f cs) e) H)
      (fun v e' H' => (inC N cap.length 0).run cs fun ec => (comp Jr clo bn (rs :: iotN cap.length 0 N) [] []).run cl (fun _ H'' => kr.r e' H'') KX.none ⟨fun _ H'' => kr.r e' H'', fun _ _ _ => .bad⟩ (E.cons rs v ec) H')⟩
    | _ => clBad S J Γ Jr

theorem exX_none {q : Pr} {o : Option Out} : ExX KX.none q o := fun _ _ _ _ _ _ _ _ => q.bad

theorem comp_ok {cl : ZCaller} (hcl : AgrZ cl (evC Φ)) (Jr : List Nat) : ∀ (c : ACode) (an : An) (S J : List Nat) (Γ : List (Nat × List Nat)) (e : E S) (x : Env) (H : ZH) (κ : E J → ZH → FR) (kx : KX Γ) (kr : KR Jr) (q : Pr), H.ok → Rel S e x →
    Go1 κ q (evX Φ c x H.heap) → ExX kx q (evX Φ c x H.heap) → RetX kr q (evX Φ c x H.heap) → Pan1 kr q (evX Φ c x H.heap) → Agr ((comp Jr c an S J Γ).run cl κ kx kr e H) q
  | .skip, _, S, J, _, e, x, H, κ, kx, kr, q, hH, h, hg, hx, hr, hp => by
    rw [evX_skip] at hg
    exact hg _ x H hH rfl (rel_nrm h J)
  | .ops l, _, S, J, _, e, x, H, κ, kx, kr, q, hH, h, hg, hx, hr, hp => by
    rw [evX_ops] at hg hp
    exact opsC_ok hcl l S e x H _ kr q hH h (fun e' x' H' hH' ho hrel => hg _ x' H' hH' ho (rel_nrm hrel J)) hp
  | .dops l, _, S, J, _, e, x, H, κ, kx, kr, q, hH, h, hg, hx, hr, hp => by
    rw [evX_dops] at hg
    exact opsC_ok hcl l S e x H _ kr.np q hH h (fun e' x' H' hH' ho hrel => hg _ x' H' hH' (by rw [ho]) (rel_nrm hrel J)) (fun _ _ _ _ _ _ _ _ => q.bad)
  | .seq a b, an, S, J, Γ, e, x, H, κ, kx, kr, q, hH, h, hg, hx, hr, hp => by
    have hs := evX_seq (Φ := Φ) a b x H.heap
    have toB : ∀ x' H', evX Φ a x H.heap = some (.go .nrm x' H') → evX Φ (.seq a b) x H.heap = evX Φ b x' H' := fun x' H' ha => by rw [hs, ha]
    have notN : ∀ o, evX Φ a x H.heap = some o → (∀ x' H', o ≠ .go .nrm x' H') → evX Φ (.seq a b) x H.heap = some o := fun o ha hn => by
      rw [hs, ha]
      rcases o with ⟨w, e', H'⟩ | ⟨v, e', H'⟩
      · cases w
        · exact absurd rfl (hn e' H')
        · rfl
        · rfl
      · rfl
    have bOK : ∀ bn S1 (e1 : E S1) x1 H1, H1.ok → Rel S1 e1 x1 → evX Φ a x H.heap = some (.go .nrm x1 H1.heap) → Agr ((comp Jr b bn S1 J Γ).run cl κ kx kr e1 H1) q := fun bn S1 e1 x1 H1 hok hrel ha => by
      have ht := toB x1 H1.heap ha
      refine comp_ok hcl Jr b bn S1 J Γ e1 x1 H1 κ kx kr q hok hrel ?_ ?_ ?_ ?_
      · rw [← ht]; exact hg
      · rw [← ht]; exact hx
      · rw [← ht]; exact hr
      · rw [← ht]; exact hp
    have exA : ∀ o, evX Φ a x H.heap = o → ExX kx q o := fun o ho id S' e' x' H' hok hoo hrel => hx id S' e' x' H' hok (notN _ (ho.trans hoo) (fun _ _ hc => by cases hc)) hrel
    have reA : ∀ o, evX Φ a x H.heap = o → RetX kr q o := fun o ho e' x' H' hok hoo hrel => hr e' x' H' hok (notN _ (ho.trans hoo) (fun _ _ hc => by cases hc)) hrel
    have paA : ∀ o, evX Φ a x H.heap = o → Pan1 kr q o := fun o ho v er x' H' hok hoo hv hrel => hp v er x' H' hok (notN _ (ho.trans hoo) (fun _ _ hc => by cases hc)) hv hrel
    cases an with
    | p bn =>
      cases a with
      | ops l => exact opsC_ok hcl l S e x H _ kr q hH h (fun e' x' H' hH' ho hrel => bOK bn _ e' x' H' hH' hrel ((evX_ops l x H.heap).trans ho)) (paA _ (evX_ops l x H.heap))
      | dops l => exact opsC_ok hcl l S e x H _ kr.np q hH h (fun e' x' H' hH' ho hrel => bOK bn _ e' x' H' hH' hrel (by rw [evX_dops, ho])) (fun _ _ _ _ _ _ _ _ => q.bad)
      | skip => exact bOK bn S e x H hH h (evX_skip x H.heap)
      | _ => exact q.bad
    | g xn bn J1 =>
      cases a with
      | cond g y z =>
        cases y with
        | skip =>
          refine bK_ok (P := fun r => Agr r q) (opd_val h g) q.bad (fun ht => bOK bn S e x H hH h (by rw [evX_cond, ht]; exact evX_skip x H.heap)) (fun ht => ?_)
          have hc : evX Φ (.cond g .skip z) x H.heap = evX Φ z x H.heap := by rw [evX_cond, ht]
          exact comp_ok hcl Jr z xn S J1 Γ e x H _ kx kr q hH h (fun e' x' H' hH' ho hrel => bOK bn J1 e' x' H' hH' hrel (hc.trans ho)) (exA _ hc) (reA _ hc) (paA _ hc)
        | _ => exact q.bad
      | _ => exact q.bad
    | h xn bn J1 =>
      cases a with
      | cond g z y =>
        cases y with
        | skip =>
          refine bK_ok (P := fun r => Agr r q) (opd_val h g) q.bad (fun ht => ?_) (fun ht => bOK bn S e x H hH h (by rw [evX_cond, ht]; exact evX_skip x H.heap))
          have hc : evX Φ (.cond g z .skip) x H.heap = evX Φ z x H.heap := by rw [evX_cond, ht]
          exact comp_ok hcl Jr z xn S J1 Γ e x H _ kx kr q hH h (fun e' x' H' hH' ho hrel => bOK bn J1 e' x' H' hH' hrel (hc.trans ho)) (exA _ hc) (reA _ hc) (paA _ hc)
        | _ => exact q.bad
      | _ => exact q.bad
    | s an bn J1 => exact comp_ok hcl Jr a an S J1 Γ e x H _ kx kr q hH h (fun e' x' H' hH' ho hrel => bOK bn J1 e' x' H' hH' hrel ho) (exA _ rfl) (reA _ rfl) (paA _ rfl)
    | _ => exact q.bad
  | .cond g a b, an, S, J, Γ, e, x, H, κ, kx, kr, q, hH, h, hg, hx, hr, hp => by
    rw [evX_cond] at hg hx hr hp
    cases an with
    | c an bn =>
      refine bK_ok (P := fun r => Agr r q) (opd_val h g) q.bad (fun ht => ?_) (fun ht => ?_)
      · rw [ht] at hg hx hr hp
        exact comp_ok hcl Jr a an S J Γ e x H κ kx kr q hH h hg hx hr hp
      · rw [ht] at hg hx hr hp
        exact comp_ok hcl Jr b bn S J Γ e x H κ kx kr q hH h hg hx hr hp
    | _ => exact q.bad
  | .block id a, an, S, J, Γ, e, x, H, κ, kx, kr, q, hH, h, hg, hx, hr, hp => by
    have hb := evX_block (Φ := Φ) id a x H.heap
    cases an with
    | b an =>
      refine comp_ok hcl Jr a an S J ((id, J) :: Γ) e x H κ (KX.cons id κ kx) kr q hH h ?_ ?_ ?_ ?_
      · exact fun e' x' H' hH' ho hrel => hg e' x' H' hH' (by rw [hb, ho]) hrel
      · refine exX_cons hx id (fun e' x' H' hH' ho hrel => hg e' x' H' hH' (by rw [hb, ho]; exact if_pos rfl) hrel) fun i x' H' hi ho => ?_
        rw [hb, ho]; exact if_neg hi
      · exact fun e' x' H' hH' ho hrel => hr e' x' H' hH' (by rw [hb, ho]) hrel
      · exact fun v er x' H' hH' ho hv hrel => hp v er x' H' hH' (by rw [hb, ho]) hv hrel
    | _ => exact q.bad
  | .loop keep a, an, S, J, Γ, e, x, H, κ, kx, kr, q, hH, h, hg, hx, hr, hp => by
    cases an with
    | l N an =>
      have key : ∀ (n : Nat) (e0 : E (keep ++ N)) (x0 : Env) (H0 : ZH), H0.ok → Rel (keep ++ N) e0 (keepS keep x0) → ExX kx q (evX Φ (.loop keep a) x0 H0.heap) → RetX kr q (evX Φ (.loop keep a) x0 H0.heap) → Pan1 kr q (evX Φ (.loop keep a) x0 H0.heap) →
          Agr (lpZ (fun ih e1 H1 => (comp Jr a an (keep ++ N) keep Γ).run cl (fun e' H' => (kpC keep N keep).run e' fun e2 => ih e2 H') kx kr e1 H1) n e0 H0) q := by
        intro n
        induction n with
        | zero => intros; exact q.bad
        | succ n ih =>
          intro e0 x0 H0 hH0 hrel hx hr hp
          have hl := evX_loop (Φ := Φ) keep a x0 H0.heap
          have notN : ∀ o, evX Φ a (keepS keep x0) H0.heap = some o → (∀ x' H', o ≠ .go .nrm x' H') → evX Φ (.loop keep a) x0 H0.heap = some o := fun o ha hn => by
            rw [hl, ha]
            rcases o with ⟨w, e', H'⟩ | ⟨v, e', H'⟩
            · cases w
              · exact absurd rfl (hn e' H')
              · rfl
              · rfl
            · rfl
          refine comp_ok hcl Jr a an (keep ++ N) keep Γ e0 (keepS keep x0) H0 _ kx kr q hH0 hrel ?_ ?_ ?_ ?_
          · intro e' x' H' hH' ho hrel'
            have ht : evX Φ (.loop keep a) x0 H0.heap = evX Φ (.loop keep a) x' H'.heap := by rw [hl, ho]
            rw [ht] at hx hr hp
            exact kpC_ok hrel' keep fun e2 hrel2 => ih e2 x' H' hH' hrel2 hx hr hp
          · exact fun id S' e' x' H' hok ho hrel => hx id S' e' x' H' hok (notN _ ho (fun _ _ hc => by cases hc)) hrel
          · exact fun e' x' H' hok ho hrel => hr e' x' H' hok (notN _ ho (fun _ _ hc => by cases hc)) hrel
          · exact fun v er x' H' hok ho hv hrel => hp v er x' H' hok (notN _ ho (fun _ _ hc => by cases hc)) hv hrel
      exact kpC_ok h keep fun e0 hrel => key 1000000 e0 x H hH hrel hx hr hp
    | _ => exact q.bad
  | .exit id, _, S, J, Γ, e, x, H, κ, kx, kr, q, hH, h, hg, hx, hr, hp => by
    rw [evX_exit] at hx
    exact hx id S e x H hH rfl h
  | .ret, _, S, J, Γ, e, x, H, κ, kx, kr, q, hH, h, hg, hx, hr, hp => by
    rw [evX_ret] at hr
    exact hr _ x H hH rfl (rel_nrm h Jr)
  | .dfr s f cap rs body clo, an, S, J, Γ, e, x, H, κ, kx, kr, q, hH, h, hg, hx, hr, hp => by
    cases an with
    | d an bn N =>
      refine argC_ok h cap fun cs vs hvs hcs => ?_
      have hd : evX Φ (.dfr s f cap rs body clo) x H.heap = dfrS (fun v H' => evX Φ clo ((rs, .v v) :: initEnv 0 vs) H') (evX Φ body ((s, .v (.fn f vs)) :: x) H.heap) := by rw [evX_dfr, hvs]
      rw [hd] at hr
      have back : ∀ (v : V) (e' : E Jr) (x' : Env) (H' : ZH), H'.ok → v.pv = some v.av → Rel Jr e' x' → dfrS (fun v H' => evX Φ clo ((rs, .v v) :: initEnv 0 vs) H') (evX Φ body ((s, .v (.fn f vs)) :: x) H.heap) = backS x' (evX Φ clo ((rs, .v v.av) :: initEnv 0 vs) H'.heap) →
          Agr ((inC N cap.length 0).run cs fun ec => (comp Jr clo bn (rs :: iotN cap.length 0 N) [] []).run cl (fun _ H'' => kr.r e' H'') KX.none ⟨fun _ H'' => kr.r e' H'', fun _ _ _ => .bad⟩ (E.cons rs v ec) H') q := fun v e' x' H' hH' hv hrel hback => by
        refine inC_rel _ cs fun hl ec hec => ?_
        rw [hback] at hr
        rw [hcs] at hec
        have done : ∀ (w : Ex) (x2 : Env) (H2 : ZH), (w = .nrm ∨ w = .ret) → H2.ok → evX Φ clo ((rs, .v v.av) :: initEnv 0 vs) H'.heap = some (.go w x2 H2.heap) → Agr (kr.r e' H2) q := fun w x2 H2 hw hH2 ho => by
          refine hr e' x' H2 hH2 ?_ hrel
          rw [ho]
          rcases hw with rfl | rfl <;> rfl
        exact comp_ok hcl Jr clo bn _ [] [] _ _ H' _ KX.none _ q hH' (rel_cons hec rs (pv_den hv)) (fun _ x2 H2 hH2 ho _ => done .nrm x2 H2 (.inl rfl) hH2 ho) exX_none (fun _ x2 H2 hH2 ho _ => done .ret x2 H2 (.inr rfl) hH2 ho) (fun _ _ _ _ _ _ _ _ => q.bad)
      refine comp_ok hcl Jr body an (s :: S) Jr [] _ ((s, .v (.fn f vs)) :: x) H _ KX.none _ q hH (rel_cons h s (by show Sl.v _ = .v (.fn f cs.cl); rw [hcs])) ?_ exX_none ?_ ?_
      · exact fun e' x' H' hH' ho hrel => back .nc e' x' H' hH' rfl hrel (by rw [ho]; rfl)
      · exact fun e' x' H' hH' ho hrel => back .nc e' x' H' hH' rfl hrel (by rw [ho]; rfl)
      · exact fun v er x' H' hH' ho hv hrel => back v er x' H' hH' hv hrel (by rw [ho]; rfl)
    | _ => exact q.bad
end
end Ey

namespace Ey
open Go (IntKind FloatKind BinOp UnOp)

/-! ### results -/
structure Rs (S : List Nat) where
  run : E S → ZH → (V → FR) → FR
noncomputable def rsC (S : List Nat) : ARes → Rs S
  | .tmp t => ⟨fun e _ k => haK ((acc S t).run e) k⟩
  | .cell s sz ag => ⟨fun e H k => ldZ S sz ag s ((acc S s).run e) e H k⟩
theorem rsC_ok {S : List Nat} {e : E S} {x : Env} (h : Rel S e x) {H : ZH} (hH : H.ok) {q : Pr} (r : ARes) {k : V → FR} (hk : ∀ w, resS x H.heap r = some w.av → w.pv = some w.av → Agr (k w) q) : Agr ((rsC S r).run e H k) q := by
  cases r with
  | tmp t =>
    refine haK_ok fun hp => hk _ ?_ hp
    have := (V.pv_sl hp).2.2.1 _ (get_den h t)
    simp only [resS, this]
  | cell s sz ag => exact ldZ_ok h hH (opd_dle h (.t s)) fun w hw hp => hk w hw hp
noncomputable def rssC (S : List Nat) : List ARes → Rs S
  | [] => ⟨fun _ _ k => k .nil⟩
  | r :: l => ⟨fun e H k => (rsC S r).run e H fun v => (rssC S l).run e H fun t => k (.one v t)⟩
theorem rssC_ok {S : List Nat} {e : E S} {x : Env} (h : Rel S e x) {H : ZH} (hH : H.ok) {q : Pr} : ∀ (l : List ARes) {k : V → FR}, (∀ w, resAll x H.heap l = some w.cl → Agr (k w) q) → Agr ((rssC S l).run e H k) q
  | [], k, hk => hk .nil rfl
  | r :: l, k, hk => rsC_ok h hH r fun v hv _ => rssC_ok h hH l fun t ht => hk _ (by simp only [resAll, hv, ht, Option.map_some, V.cl])
noncomputable def resC (S : List Nat) : List ARes → Rs S
  | [r] => rsC S r
  | l => ⟨fun e H k => (rssC S l).run e H fun w => k (.tu w)⟩
theorem resC_ok {S : List Nat} {e : E S} {x : Env} (h : Rel S e x) {H : ZH} (hH : H.ok) {q : Pr} (l : List ARes) {k : V → FR} (hk : ∀ w, resOf x H.heap l = some w.av → w.pv = some w.av → Agr (k w) q) : Agr ((resC S l).run e H k) q := by
  match l with
  | [] => exact rssC_ok h hH [] fun w hw => hk (.tu w) (by simp only [resOf, hw, Option.map_some, V.av]) rfl
  | [r] => exact rsC_ok h hH r hk
  | r :: r2 :: t => exact rssC_ok h hH (r :: r2 :: t) fun w hw => hk (.tu w) (by simp only [resOf, hw, Option.map_some, V.av]) rfl
def resSl : List ARes → List Nat
  | [] => []
  | .tmp t :: l => t :: resSl l
  | .cell s _ _ :: l => s :: resSl l

noncomputable def unV (n : Nat) : V → Bool := @V.rec (fun _ => Bool)
  (fun _ => true) (fun _ => true) (fun _ _ => true) (fun _ _ => true) (fun y => y.under n) (fun _ _ ih => ih) true (fun id _ _ _ => Nat.ble (Nat.succ id) n) (fun _ ih => ih) true (fun id _ => Nat.ble (Nat.succ id) n) (fun id _ _ _ => Nat.ble (Nat.succ id) n)
  (fun _ _ ih => ih) true (fun _ _ ih => ih) true (fun _ ih => ih) (fun _ ih => ih) true (fun _ _ ih1 ih2 => ifB ih1 false ih2) (fun _ _ _ _ ih => ih) true true true (fun _ _ => true) (fun _ _ => true)
theorem under_digs (n k : Nat) : ∀ l m, AV.underAll n (digs k l m) = true
  | 0, _ => rfl
  | l + 1, m => by
    simp only [digs, AV.underAll, under_digs n k l, Bool.and_true]
    match k with
    | 0 => rfl
    | 1 => rfl
    | k + 2 => rfl
theorem underAll_app (n : Nat) : ∀ a b : List AV, AV.underAll n (a ++ b) = (AV.underAll n a && AV.underAll n b)
  | [], b => by simp [AV.underAll]
  | x :: a, b => by simp only [List.cons_append, AV.underAll, underAll_app n a b, Bool.and_assoc]
theorem unV_ok (n : Nat) (v : V) : unV n v = true → v.av.under n = true ∧ AV.underAll n v.cl = true := by
  have lt : ∀ id : Nat, Nat.ble (Nat.succ id) n = true → decide (id < n) = true := fun id h => decide_eq_true (Nat.le_of_ble_eq_true h)
  induction v with
  | x y => intro h; exact ⟨h, rfl⟩
  | li nl c ih => intro h; exact ⟨(ih h).2, rfl⟩
  | ms id ver lo len => intro h; exact ⟨lt id h, rfl⟩
  | im y ih => intro h; exact ⟨(ih h).1, rfl⟩
  | pt id o => intro h; exact ⟨lt id h, rfl⟩
  | ap id ver i o => intro h; exact ⟨lt id h, rfl⟩
  | fn g c ih => intro h; exact ⟨(ih h).2, rfl⟩
  | fc t y ih => intro h; exact ⟨(ih h).1, rfl⟩
  | ag c ih => intro h; exact ⟨(ih h).2, rfl⟩
  | tu c ih => intro h; exact ⟨(ih h).2, rfl⟩
  | one h t ihh iht =>
    intro hb
    have hb' : ifB (unV n h) false (unV n t) = true := hb
    cases h1 : unV n h with
    | false => rw [h1] at hb'; cases hb'
    | true => rw [h1] at hb'; exact ⟨rfl, by simp only [V.cl, AV.underAll, (ihh h1).1, (iht hb').2, Bool.and_self]⟩
  | run k l m t ih => intro h; exact ⟨rfl, by simp only [V.cl, underAll_app, under_digs, (ih h).2, Bool.and_self]⟩
  | _ => intro _; exact ⟨rfl, rfl⟩

noncomputable def doZ (pure : Bool) (H : ZH) (v : V) (H' : ZH) (mk : V → ZH → FR) : FR := @Bool.rec (fun _ => FR) (hK H fun _ ro _ => hK H' fun nx _ bl => mk v ⟨nx, ro, bl⟩) (ifB (unV H.next v) .bad (mk v H)) pure
noncomputable def boZ' (pure : Bool) (H : ZH) : ZH := @Bool.rec (fun _ => ZH) H (@ZH.rec (fun _ => ZH) (fun nx _ bl => ⟨nx, nx, bl⟩) H) pure
structure Fc where
  run : ZCaller → V → ZH → FR
noncomputable def fnC (af : AFn) (an : An) (N : List Nat) : Fc := ⟨fun cl w H => (inC N af.params 0).run w fun e0 =>
  (fun (fin : E (resSl af.results) → ZH → FR) => (comp (resSl af.results) af.code an (iotN af.params 0 N) (resSl af.results) []).run cl fin KX.none ⟨fin, fun v _ H' => doZ af.pure H v H' .pan⟩ e0 (boZ' af.pure H))
  (fun e' H' => (resC (resSl af.results) af.results).run e' H' fun v => doZ af.pure H v H' .ret)⟩
section
variable {Φ : Nat → Option AFn}
theorem fnC_ok {cl : ZCaller} (hcl : AgrZ cl (evC Φ)) {f : Nat} {af : AFn} (hf : Φ f = some af) (an : An) (N : List Nat) (w : V) (H : ZH) (hH : H.ok) : Agf ((fnC af an N).run cl w H) (evC Φ f w.cl H.heap) := by
  refine inC_rel (q := Pr.of _) _ w fun hl e0 he0 => ?_
  rw [evC_eq hf hl]
  have hB : (boZ' af.pure H).heap = bodyH af H.heap := by
    simp only [boZ', bodyH]; cases af.pure <;> rfl
  have hBo : (boZ' af.pure H).ok := by simp only [boZ']; cases af.pure <;> exact hH
  rw [← hB]
  have hpan : ∀ (v : V) (x' : Env) (H' : ZH), H'.ok → v.pv = some v.av → ∀ o, o = some (.pan v.av x' H'.heap) → Agf (doZ af.pure H v H' .pan) (finS af H.heap o) := fun v x' H' hH' hv o ho => by
    subst ho
    simp only [doZ, finS]
    cases af.pure with
    | true =>
      refine ifB_ok (P := fun r => Agf r _) trivial fun hu => ?_
      have : v.av.under H.heap.next = true := (unV_ok H.next v hu).1
      exact ⟨by simp only [if_true, this], hH, hv⟩
    | false => exact ⟨rfl, hH', hv⟩
  have hfin : ∀ (wx : Ex) (e' : E (resSl af.results)) (x' : Env) (H' : ZH), (wx = .nrm ∨ wx = .ret) → H'.ok → Rel (resSl af.results) e' x' → ∀ o, o = some (.go wx x' H'.heap) → Agf ((resC (resSl af.results) af.results).run e' H' fun v => doZ af.pure H v H' .ret) (finS af H.heap o) := fun wx e' x' H' hw hH' hrel o ho => by
    refine resC_ok (q := Pr.of _) hrel hH' af.results fun v hv hp => ?_
    subst ho
    have hfi : finS af H.heap (some (.go wx x' H'.heap)) = if af.pure then (if v.av.under H.heap.next then some (.ret v.av H.heap) else none) else some (.ret v.av { H'.heap with ro := H.heap.ro }) := by
      rcases hw with rfl | rfl <;> simp only [finS, hv]
    rw [hfi]
    simp only [doZ]
    cases af.pure with
    | true =>
      refine ifB_ok (P := fun r => Agf r _) trivial fun hu => ?_
      have : v.av.under H.heap.next = true := (unV_ok H.next v hu).1
      exact ⟨by simp only [if_true, this], hH, hp⟩
    | false => exact ⟨rfl, hH', hp⟩
  exact comp_ok hcl _ af.code an _ _ [] e0 (initEnv 0 w.cl) (boZ' af.pure H) _ KX.none _ (Pr.of _) hBo he0
    (fun e' x' H' hH' ho hrel => hfin .nrm e' x' H' (.inl rfl) hH' hrel _ ho) exX_none
    (fun e' x' H' hH' ho hrel => hfin .ret e' x' H' (.inr rfl) hH' hrel _ ho) (fun v er x' H' hH' ho hv _ => hpan v x' H' hH' hv _ ho)

/-! ### a program's functions -/
inductive ZE where
  | none
  | code (af : AFn) (an : An) (N : List Nat)
  | nat (g : V → ZH → FR)
  | mem (g : V → ZH → FR → FR) (af : AFn) (an : An) (N : List Nat)
  | fp (g : ZCaller → V → ZH → FR)
noncomputable def entC : ZE → Fc
  | .none => ⟨fun _ _ _ => .bad⟩
  | .code af an N => fnC af an N
  | .nat g => ⟨fun _ w H => g w H⟩
  | .mem g af an N => ⟨fun cl w H => g w H ((fnC af an N).run cl w H)⟩
  | .fp g => ⟨g⟩
def lookZ : List ZE → Nat → ZE
  | [], _ => .none
  | a :: _, 0 => a
  | _ :: l, n + 1 => lookZ l n
def zipZ : List AFn → List (An × List Nat) → List ZE
  | a :: l, n :: m => .code a n.1 n.2 :: zipZ l m
  | _, _ => []
theorem zipZ_get : ∀ (l : List AFn) (m : List (An × List Nat)) (f : Nat), lookZ (zipZ l m) f = .none ∨ ∃ af an N, lookZ (zipZ l m) f = .code af an N ∧ l[f]? = some af
  | [], _, _ => .inl rfl
  | _ :: _, [], _ => .inl rfl
  | a :: l, n :: m, 0 => .inr ⟨a, n.1, n.2, rfl, rfl⟩
  | a :: l, n :: m, f + 1 => by
    rcases zipZ_get l m f with h | ⟨af, an, N, h1, h2⟩
    · exact .inl h
    · exact .inr ⟨af, an, N, h1, by simpa using h2⟩
def natsZ : List (Nat × ZE) → List ZE → Nat → ZE
  | [], zs, f => lookZ zs f
  | (g, e) :: l, zs, f => bif Nat.beq f g then e else natsZ l zs f
noncomputable def callZ (look : Nat → ZE) : Nat → ZCaller := @Nat.rec (fun _ => ZCaller) (fun _ _ _ => .bad) (fun _ ih f w H => (entC (look f)).run ih w H)
def ZEok (Φ : Nat → Option AFn) (f : Nat) (z : ZE) : Prop := match z with
  | .none => True
  | .code af _ _ => Φ f = some af
  | .nat g => ∀ w H, H.ok → Agf (g w H) (evC Φ f w.cl H.heap)
  | .mem g af _ _ => Φ f = some af ∧ ∀ w H x, H.ok → Agf x (evC Φ f w.cl H.heap) → Agf (g w H x) (evC Φ f w.cl H.heap)
  | .fp g => ∀ cl, AgrZ cl (evC Φ) → ∀ w H, H.ok → Agf (g cl w H) (evC Φ f w.cl H.heap)
theorem callZ_ok {look : Nat → ZE} (h : ∀ f, ZEok Φ f (look f)) : ∀ n, AgrZ (callZ look n) (evC Φ)
  | 0 => fun _ _ _ _ => trivial
  | n + 1 => fun f w H hH => by
    show Agf ((entC (look f)).run (callZ look n) w H) _
    have hf := h f
    revert hf
    generalize look f = z
    intro hf
    cases z with
    | none => trivial
    | code af an N => exact fnC_ok (callZ_ok h n) hf an N w H hH
    | nat g => exact hf w H hH
    | mem g af an N => exact hf.2 w H _ hH (fnC_ok (callZ_ok h n) hf.1 an N w H hH)
    | fp g => exact hf _ (callZ_ok h n) w H hH
theorem zip_ok {afs : List AFn} {ans : List (An × List Nat)} {f : Nat} : ZEok (fun f => afs[f]?) f (lookZ (zipZ afs ans) f) := by
  rcases zipZ_get afs ans f with h | ⟨af, an, N, h1, h2⟩
  · rw [h]; trivial
  · rw [h1]; exact h2
theorem nats_ok {zs : List ZE} {f : Nat} (hz : ZEok Φ f (lookZ zs f)) : ∀ (l : List (Nat × ZE)), (∀ g e, (g, e) ∈ l → ZEok Φ g e) → ZEok Φ f (natsZ l zs f)
  | [], _ => hz
  | (g, e) :: l, h => by
    simp only [natsZ, beq_dec]
    by_cases hfg : f = g
    · subst hfg; simp only [decide_true, cond_true]; exact h f e (List.mem_cons_self ..)
    · simp only [hfg, decide_false, cond_false]; exact nats_ok hz l fun g' e' hm => h g' e' (List.mem_cons_of_mem _ hm)

def ZH.none : ZH := ⟨0, 0, .nil⟩
theorem runZ_ret {look : Nat → ZE} (h : ∀ f, ZEok Φ f (look f)) {n f : Nat} {w : V} {H : ZH} (hH : H.ok) {v : V} {H' : ZH} (hr : callZ look n f w H = .ret v H') : evC Φ f w.cl H.heap = some (.ret v.av H'.heap) := by
  have := callZ_ok h n f w H hH
  rw [hr] at this
  exact this.1
def truV (v : V) : Bool := match v with
  | .b x => x
  | _ => false
noncomputable def tru : FR → Bool := @FR.rec (fun _ => Bool) (fun v _ => truV v) (fun _ _ => false) false
theorem tru_ret {r : FR} (h : tru r = true) : ∃ H, r = .ret (.b true) H := by
  cases r with
  | ret v H =>
    cases v <;> first | (cases h; done) | skip
    rename_i x
    cases x
    · cases h
    · exact ⟨H, rfl⟩
  | pan v H => cases h
  | bad => cases h
end
end Ey

namespace Ey
open Go Go.RowKit Go.WideShapes Go.ChangeShapes

def nodupB : List Nat → Bool
  | [] => true
  | x :: l => !l.contains x && nodupB l

theorem nodup_inj : ∀ {l : List Nat}, nodupB l = true → ∀ (t t' i : Nat), l[t]? = some i → l[t']? = some i → t = t'
  | [], _, t, t', i, h, _ => by simp at h
  | x :: l, hn, t, t', i, h, h' => by
    simp only [nodupB, Bool.and_eq_true, Bool.not_eq_true'] at hn
    have hx : x ∉ l := by simpa using hn.1
    cases t with
    | zero =>
      simp at h; subst h
      cases t' with
      | zero => rfl
      | succ t' => simp at h'; exact absurd (List.mem_of_getElem? h') hx
    | succ t =>
      simp at h
      cases t' with
      | zero => simp at h'; subst h'; exact absurd (List.mem_of_getElem? h) hx
      | succ t' => simp at h'; rw [nodup_inj hn.2 t t' i h h']

def chkSome (C : Cx) (pf : Nat → Bool) : List FuncId → List AFn → Bool
  | [], [] => true
  | fid :: ids, [] => funOK C.P fid && chkSome C pf ids []
  | fid :: ids, af :: afs => funOK C.P fid && chkFn C pf fid af && chkSome C pf ids afs
  | [], _ :: _ => false

theorem chkSome_get {C : Cx} {pf : Nat → Bool} : ∀ {ids : List FuncId} {afs : List AFn}, chkSome C pf ids afs = true → ∀ (f : Nat) (fid : FuncId), ids[f]? = some fid → funOK C.P fid = true ∧ ∀ af, afs[f]? = some af → chkFn C pf fid af = true
  | [], _, _, f, fid, h => by simp at h
  | i :: ids, [], hc, f, fid, h => by
    simp only [chkSome, Bool.and_eq_true] at hc
    cases f with
    | zero => simp at h; subst h; exact ⟨hc.1, fun af ha => by simp at ha⟩
    | succ f => simp at h; exact ⟨(chkSome_get hc.2 f fid h).1, fun af ha => by simp at ha⟩
  | i :: ids, a :: afs, hc, f, fid, h => by
    simp only [chkSome, Bool.and_eq_true] at hc
    cases f with
    | zero =>
      simp at h
      subst h
      exact ⟨hc.1.1, fun af ha => by simp at ha; exact ha ▸ hc.1.2⟩
    | succ f =>
      simp at h
      obtain ⟨h1, h2⟩ := chkSome_get hc.2 f fid h
      exact ⟨h1, fun af ha => h2 af (by simpa using ha)⟩

theorem known_some {C : Cx} {ids : List FuncId} {afs : List AFn} (hfm : C.fm = fun f => ids[f]?) (h : chkSome C (pureF fun f => afs[f]?) ids afs = true) : Known C (fun f => afs[f]?) where
  funs := fun f fid hf => by
    rw [hfm] at hf
    have h1 := (chkSome_get h f fid hf).1
    unfold funOK at h1
    split at h1
    · rename_i fn hfn
      simp only [Bool.and_eq_true, bne_iff_ne, ne_eq] at h1
      obtain ⟨c, hc⟩ := Option.isSome_iff_exists.1 h1.1
      exact ⟨fn, c, hfn, hc, h1.2⟩
    · cases h1
  fns := fun f fid af hf ha => by
    rw [hfm] at hf
    exact (chkSome_get h f fid hf).2 af ha

def ghG (C : Cx) : Gh := ⟨C.gl, fun _ => none, fun _ _ => none⟩
def ownG (C : Cx) : Own := fun b o => match C.gl b o with
  | some _ => .imm
  | none => .free
def heap0 : Heap := ⟨0, 0, fun _ => none⟩
theorem ownG_some {C : Cx} {b o : Nat} {v : Value} (h : C.gl b o = some v) : ownG C b o = .imm := by simp only [ownG, h]
theorem ownG_or (C : Cx) (b o : Nat) : ownG C b o = .free ∨ (ownG C b o = .imm ∧ ∃ v, C.gl b o = some v) := by
  simp only [ownG]
  cases h : C.gl b o with
  | none => exact .inl rfl
  | some v => exact .inr ⟨rfl, v, rfl⟩

theorem stG (C : Cx) (w : World) (hw : ∀ b o v, C.gl b o = some v → w.cell? ⟨b, o, none⟩ = some v ∧ b < w.heap.size) : St C (ghG C) (ownG C) w.heap.size heap0 w where
  imm := fun b o v h => ⟨ownG_some h, (hw b o v h).1⟩
  obj := fun _ _ h => by cases h
  arr := fun _ _ _ _ h => by cases h
  mp := fun _ _ h => by cases h
  next := fun _ _ => ⟨rfl, rfl, fun _ => rfl⟩
  ext := fun b o => by
    rcases ownG_or C b o with h | ⟨_, v, h⟩
    · exact .inl h
    · exact .inr (hw b o v h).2
  base := fun b o ⟨x, hx⟩ => by
    rcases ownG_or C b o with h | ⟨h, _⟩ <;> rw [h] at hx <;> rcases hx with hx | hx <;> cases hx
  size := Nat.le_refl _
  ro := Nat.le_refl _
  gl := fun _ _ _ h => h

theorem none_heap : ZH.none.heap = heap0 := rfl

theorem closed_calls {C : Cx} {Φ : Nat → Option AFn} (hK : Known C Φ) {f : Nat} {fid : FuncId} (hf : C.fm f = some fid) {b : Bool} {H' : Heap} (h : evC Φ f [] heap0 = some (.ret (.bool b) H')) (w : World)
    (hw : ∀ b o v, C.gl b o = some v → w.cell? ⟨b, o, none⟩ = some v ∧ b < w.heap.size) :
    Calls C.P fid #[] w fun e w' => e = .returned (.bool b) ∧ Below w.heap.size w w' := by
  refine (calls_ev hK f [] heap0 _ h fid hf (ghG C) (ownG C) w.heap.size w #[] (stG C w hw) (fun b o s h => by rcases ownG_or C b o with h' | ⟨h', _⟩ <;> rw [h'] at h <;> cases h) rfl (fun i x y hx => by simp at hx)).mono fun e w' hq => ?_
  obtain ⟨g', own', _, ⟨rv, rfl, hrv⟩, hE, _⟩ := hq
  cases hrv
  exact ⟨rfl, hE.below⟩

theorem args_calls {C : Cx} {Φ : Nat → Option AFn} (hK : Known C Φ) {f : Nat} {fid : FuncId} (hf : C.fm f = some fid) {vs : List AV} {ws : Array Value} (hl : vs.length = ws.size) (hv : ∀ (g : Gh) (i : Nat) (x : AV) (y : Value), vs[i]? = some x → ws[i]? = some y → VR C g x y)
    {b : Bool} {H' : Heap} (h : evC Φ f vs heap0 = some (.ret (.bool b) H')) (w : World)
    (hw : ∀ b o v, C.gl b o = some v → w.cell? ⟨b, o, none⟩ = some v ∧ b < w.heap.size) :
    Calls C.P fid ws w fun e w' => e = .returned (.bool b) ∧ Below w.heap.size w w' := by
  refine (calls_ev hK f vs heap0 _ h fid hf (ghG C) (ownG C) w.heap.size w ws (stG C w hw) (fun b o s h => by rcases ownG_or C b o with h' | ⟨h', _⟩ <;> rw [h'] at h <;> cases h) hl (hv _)).mono fun e w' hq => ?_
  obtain ⟨g', own', _, ⟨rv, rfl, hrv⟩, hE, _⟩ := hq
  cases hrv
  exact ⟨rfl, hE.below⟩

theorem pure_ret {Φ : Nat → Option AFn} {f : Nat} {af : AFn} (hf : Φ f = some af) (hp : af.pure = true) {vs : List AV} {H H' : Heap} {v : AV} (h : evC Φ f vs H = some (.ret v H')) : H' = H := by
  obtain ⟨n, hn⟩ := evC_iff.1 h
  cases n with
  | zero => cases hn
  | succ n =>
    simp only [callN, hf] at hn
    split at hn
    · cases hx : exec n (callN Φ n) af.code (initEnv 0 vs) (bodyH af H) with
      | none => rw [hx] at hn; cases hn
      | some o =>
        rw [hx] at hn
        rcases o with ⟨q, e, H1⟩ | ⟨w, e, H1⟩
        · cases q <;> simp only [finS, hp, if_true] at hn
          all_goals
            repeat' (split at hn)
            all_goals first | (cases hn; done) | (simp only [Option.some.injEq, CRes.ret.injEq] at hn; exact hn.2.symm)
        · simp only [finS, hp, if_true] at hn
          split at hn <;> cases hn
    · cases hn

/-! ### a closed function that answers true, run once -/
noncomputable def nilB (bl : HB) (d k : FR) : FR := @HB.rec (fun _ => FR) k (fun _ _ _ _ _ => d) bl
noncomputable def onceZ : ZE := .nat fun w H => nxK w .bad (@ZH.rec (fun _ => FR) (fun nx ro bl => ifB (Nat.beq nx 0) .bad (ifB (Nat.beq ro 0) .bad (nilB bl .bad (.ret (.b true) ZH.none)))) H)
theorem once_ok {Φ : Nat → Option AFn} {f : Nat} (h : evC Φ f [] heap0 = some (.ret (.bool true) heap0)) : ZEok Φ f onceZ := fun w H hH => by
  obtain ⟨nx, ro, bl⟩ := H
  refine nxK_ok (P := fun r => Agf r _) trivial fun hw => ?_
  subst hw
  show Agf (ifB (Nat.beq nx 0) .bad (ifB (Nat.beq ro 0) .bad (nilB bl .bad (.ret (.b true) ZH.none)))) _
  rw [ifB_beq]
  split
  · rw [ifB_beq]
    split
    · rename_i h1 h2
      subst h1; subst h2
      cases bl with
      | nil => exact ⟨h, trivial, rfl⟩
      | _ => trivial
    · trivial
  · trivial

/-! ### all of some first numbers -/
noncomputable def allN (p : Nat → Bool) : Nat → Bool := @Nat.rec (fun _ => Bool) true (fun i ih => ifB (p i) false ih)
theorem allN_ok {p : Nat → Bool} : ∀ {n : Nat}, allN p n = true → ∀ i, i < n → p i = true
  | 0, _, i, hi => by omega
  | n + 1, h, i, hi => by
    have h' : ifB (p n) false (allN p n) = true := h
    cases hn : p n with
    | false => rw [hn] at h'; cases h'
    | true =>
      rw [hn] at h'
      by_cases hin : i = n
      · rw [hin]; exact hn
      · exact allN_ok (n := n) h' i (by omega)

theorem wrap_small {n : Nat} (h : n < 9223372036854775808) : IntKind.wrap .i64 (n : Int) = n := wrap64 (by omega) (by omega)

theorem tmod_cast (a m : Nat) : ((a % m : Nat) : Int).tmod m = (a : Int).tmod m := by
  rw [Int.ofNat_tmod, ← Int.ofNat_tmod, ← Int.ofNat_tmod, Nat.mod_mod]

section
variable {H : Type} {enc : TypeId × Value → H} {P : Program}
theorem post_low {f : Func} {s : ChangeSpec} {apart fresh handsOn again : Bool} {W W' : World} {args : Array Value} {v : Value} {ds gs : List (DataW H)} {before pa pv : List MemPlace}
    (hW : DataW.Whole enc P f.params.toList s.vars apart W args.toList ds gs before)
    (hres : ∀ (b : Nat) (sp : Nat → Bool) (hd : Bool), DataW.TrodAll enc P W' b sp hd f.resultTypes.toList (v.resultList f.resultTypes.size) (s.fn H (ds ++ gs)).results [])
    (hargs : ∀ sp : Nat → Bool, (∀ p ∈ before, sp p.block = true) → DataW.TrodAll enc P W' 0 sp true f.params.toList args.toList (s.fn H (ds ++ gs)).args pa)
    (hvars : ∀ sp : Nat → Bool, (∀ p ∈ before, sp p.block = true) → DataW.TrodVars enc P W' sp s.vars (s.fn H (ds ++ gs)).vars pv)
    (hps : before = pa ++ pv) (hb : Below W.heap.size W W')
    (hok : ∀ (j : Nat) (t : TypeId) (r : Value), f.resultTypes[j]? = some t → (v.resultList f.resultTypes.size)[j]? = some r → Value.okWide P W' .any 0 t r) :
    s.post enc P f apart fresh handsOn again W args v W' := by
  have old : ∀ p ∈ before, p.block < W.heap.size := fun p hp => hW.lt p hp
  have seen : ∀ p ∈ before, (fun b => decide (b < W.heap.size)) p.block = true := fun p hp => by simpa using old p hp
  refine ⟨ds, gs, before, [], pa, pv, hW, hres _ _ _, hargs _ seen, hvars _ seen, World.keptBut_mono (fun p hp => ⟨hp, ?_⟩) (hb.frame (· ∈ before)), fun _ => ?_⟩
  · rw [hps] at hp
    exact .inr (List.mem_append.1 hp)
  · obtain ⟨_, _, _, _, _, hz, hn⟩ := hW
    refine ⟨hok, _, _, ([] ++ pa) ++ pv, ⟨[] ++ pa, pv, trodAll_append (hargs _ (fun _ _ => rfl)) (hres _ _ _), hvars _ (fun _ _ => rfl), rfl, fun b off hp => ?_, fun ha => ?_⟩, fun p hp _ => ?_⟩
    · have hin : MemPlace.cell b off ∈ before := by rw [hps]; simpa using hp
      rw [hb.frozen (old _ hin)]
      exact hz b off hin
    · have := hn ha
      rw [hps] at this
      simpa using this
    · rw [hps]
      simpa using hp
end
end Ey

namespace Ey
open Go Go.RowKit Go.ChangeShapes

theorem cell_lt {W : World} {g o : Nat} {v : Value} (h : W.cell? ⟨g, o, none⟩ = some v) : g < W.heap.size := by
  unfold World.cell? at h
  cases hb : W.heap[g]? with
  | none => simp only [hb] at h; cases h
  | some x => exact (Array.getElem?_eq_some_iff.1 hb).1

theorem gl_nil (W : World) : ∀ b o v, glf [] b o = some v → W.cell? ⟨b, o, none⟩ = some v ∧ b < W.heap.size := fun b o v h => by simp [glf] at h

theorem gl_cons {P : Program} {W : World} {name : String} {k : IntKind} {zs : List Int} {g : Nat} (hT : Lib.TabIs P W name k zs) (hg : P.globalNamed name = some g) {cs : List Value} (hc : cs = zs.map fun z => Value.int k z) {l : List (Nat × List Value)}
    (hl : ∀ b o v, glf l b o = some v → W.cell? ⟨b, o, none⟩ = some v ∧ b < W.heap.size) : ∀ b o v, glf ((g, cs) :: l) b o = some v → W.cell? ⟨b, o, none⟩ = some v ∧ b < W.heap.size := fun b o v h => by
  simp only [glf, List.lookup_cons] at h
  by_cases hb : b = g
  · subst hb
    simp only [beq_self_eq_true, Option.bind_some] at h
    have := World.var?_cell hg hT o
    rw [hc] at h
    have h' : W.cell? ⟨b, o, none⟩ = some v := by rw [this]; simpa using h
    exact ⟨h', cell_lt h'⟩
  · have hne : (b == g) = false := by simpa using hb
    rw [hne] at h
    exact hl b o v h

def layBytes (zs : List Nat) : Obj → Obj
  | .cells _ t frozen => .cells (zs.map fun (z : Nat) => Value.int .u8 (z : Int)).toArray t frozen
  | o => o
def layAll (h : Array Obj) : List (Nat × List Nat) → Array Obj
  | [] => h
  | x :: l => layAll (h.modify x.1 (layBytes x.2)) l
noncomputable def startWith (P : Program) (n : Nat) (tabs : List (Nat × List Nat)) (os : Go.Os) : World :=
  let w0 := World.doorLaid P n os
  { w0 with heap := layAll w0.heap tabs }

theorem vr_ints {C : Cx} : ∀ (l : List (IntKind × Int)) (g : Gh) (i : Nat) (x : AV) (y : Value), (l.map fun p => AV.int p.1 p.2)[i]? = some x → (l.map fun p => Value.int p.1 p.2).toArray[i]? = some y → VR C g x y
  | l, g, i, x, y, hx, hy => by
    simp only [List.getElem?_map, Option.map_eq_some_iff] at hx
    obtain ⟨p, hp, rfl⟩ := hx
    simp only [List.getElem?_toArray, List.getElem?_map, hp, Option.map_some, Option.some.injEq] at hy
    subst hy
    exact .int _ _
end Ey

namespace Ey
open Go Go.RowKit Go.ChangeShapes Go.WideShapes

inductive Sc where
  | bool
  | int (k : IntKind)
  | str
  | sl (ag : Bool) (l : List Sc)

def isAg (P : Program) (t : TypeId) : Bool := match P.underlying t with
  | some (.struct _) => true
  | some (.array _ _) => true
  | _ => false

def shFields (P : Program) (sh : TypeId → Option (List Sc)) : Nat → List Field → Option (List Sc)
  | _, [] => some []
  | off, f :: r => match sh f.type with
    | none => none
    | some l => if f.offset = off ∧ P.cellsOf f.type = l.length then (shFields P sh (off + l.length) r).map (l ++ ·) else none

def shOf (P : Program) : Nat → TypeId → Option (List Sc)
  | 0, _ => none
  | n + 1, t => match P.underlying t with
    | some .bool => some [.bool]
    | some (.int k) => some [.int k]
    | some .string => some [.str]
    | some (.slice e) => match shOf P n e with
      | none => none
      | some l => if P.cellsOf e = l.length ∧ 0 < l.length ∧ (isAg P e = false → l.length = 1) then some [.sl (isAg P e) l] else none
    | some (.struct fs) => match shFields P (shOf P n) 0 fs.toList with
      | none => none
      | some l => if P.cellsOf t = l.length then some l else none
    | some (.array m e) => match shOf P n e with
      | none => none
      | some l => if P.cellsOf e = l.length ∧ P.cellsOf t = m * l.length then some (List.replicate m l).flatten else none
    | _ => none

inductive Imp : Sc → AV → Prop
  | bool (b : Bool) : Imp .bool (.bool b)
  | int (k : IntKind) (n : Int) (h : (Lit.int k n).wf = true) : Imp (.int k) (.int k n)
  | str (s : List UInt8) (h : s.length ≤ maxLen) : Imp .str (.str s)
  | nil (ag : Bool) (l : List Sc) : Imp (.sl ag l) (.list true [])
  | c0 (ag : Bool) (l : List Sc) : Imp (.sl ag l) .cap0
  | list (ag : Bool) (l : List Sc) (xs : List AV) (h : xs.length ≤ maxLen) (ha : ∀ x ∈ xs, x.one = !ag ∧ x.cells.length = l.length)
      (hx : ∀ x ∈ xs, ∀ (i : Nat) (s : Sc) (y : AV), l[i]? = some s → x.cells[i]? = some y → Imp s y) : Imp (.sl ag l) (.list false xs)

def ImpL (l : List Sc) (xs : List AV) : Prop := xs.length = l.length ∧ ∀ (i : Nat) (s : Sc) (y : AV), l[i]? = some s → xs[i]? = some y → Imp s y

theorem Imp.one {s : Sc} {x : AV} (h : Imp s x) : x.one = true := by cases h <;> rfl

theorem ImpL.append {l l' : List Sc} {xs xs' : List AV} (h : ImpL l xs) (h' : ImpL l' xs') : ImpL (l ++ l') (xs ++ xs') := by
  refine ⟨by simp [h.1, h'.1], fun i s y hs hy => ?_⟩
  by_cases hi : i < l.length
  · rw [List.getElem?_append_left hi] at hs
    rw [List.getElem?_append_left (by rw [h.1]; exact hi)] at hy
    exact h.2 i s y hs hy
  · rw [List.getElem?_append_right (by omega)] at hs
    rw [List.getElem?_append_right (by rw [h.1]; omega), h.1] at hy
    exact h'.2 _ s y hs hy

def ghW (w : World) : Gh := ⟨fun b o => w.cell? ⟨b, o, none⟩, fun _ => none, fun _ _ => none⟩
def ownW (w : World) : Own := fun b o => match w.cell? ⟨b, o, none⟩ with
  | some _ => .imm
  | none => .free

theorem ownW_or (w : World) (b o : Nat) : ownW w b o = .free ∨ (ownW w b o = .imm ∧ ∃ v, w.cell? ⟨b, o, none⟩ = some v) := by
  simp only [ownW]
  cases h : w.cell? ⟨b, o, none⟩ with
  | none => exact .inl rfl
  | some v => exact .inr ⟨rfl, v, rfl⟩

theorem cell_in {w : World} {b o : Nat} {v : Value} (h : w.cell? ⟨b, o, none⟩ = some v) : b < w.heap.size := by
  unfold World.cell? at h
  cases hb : w.heap[b]? with
  | none => simp only [hb] at h; cases h
  | some x => exact (Array.getElem?_eq_some_iff.1 hb).1

theorem stW (C : Cx) (w : World) (hw : ∀ b o v, C.gl b o = some v → w.cell? ⟨b, o, none⟩ = some v) : St C (ghW w) (ownW w) w.heap.size heap0 w where
  imm := fun b o v h => ⟨by have h' : w.cell? ⟨b, o, none⟩ = some v := h; simp only [ownW, h'], h⟩
  obj := fun _ _ h => by cases h
  arr := fun _ _ _ _ h => by cases h
  mp := fun _ _ h => by cases h
  next := fun _ _ => ⟨rfl, rfl, fun _ => rfl⟩
  ext := fun b o => by
    rcases ownW_or w b o with h | ⟨_, v, h⟩
    · exact .inl h
    · exact .inr (cell_in h)
  base := fun b o ⟨x, hx⟩ => by
    rcases ownW_or w b o with h | ⟨h, _⟩ <;> rw [h] at hx <;> rcases hx with hx | hx <;> cases hx
  size := Nat.le_refl _
  ro := Nat.le_refl _
  gl := fun b o v h => hw b o v h

section
variable {C : Cx} {g : Gh}

theorem CR.none : CR C g [] [] := ⟨rfl, fun c hc => (by cases hc), fun i x y hx => (by simp at hx)⟩
theorem CR.single {x : AV} {v : Value} (h : VR C g x v) (h1 : x.one = true) : CR C g [x] [v] :=
  ⟨rfl, fun c hc => by rw [List.mem_singleton] at hc; rw [hc]; exact h1, fun i a b ha hb => by
    cases i with
    | zero => simp at ha hb; exact ha ▸ hb ▸ h
    | succ i => simp at ha⟩
end

theorem addr_add {a : Addr} (h : a.spot = none) (n : Nat) : a.add n = ⟨a.block, a.off + n, none⟩ := by
  obtain ⟨b, o, s⟩ := a
  obtain rfl : s = none := h
  unfold Addr.add
  split
  · rename_i h0; subst h0; rfl
  · rfl
theorem cell_spot {w : World} {a : Addr} {v : Value} (h : w.cell? a = some v) : a.spot = none := by
  unfold World.cell? at h
  split at h
  · split at h
    · cases h
    · rename_i hs; simpa using hs
  · cases h

section
variable {C : Cx} {w : World} {H : Type} {enc : TypeId × Value → H}

def Rd (C : Cx) (w : World) (l : List Sc) (cs : List Value) : Prop := cs.length = l.length ∧ ∃ xs, ImpL l xs ∧ CR C (ghW w) xs cs

theorem Rd.append {l l' : List Sc} {cs cs' : List Value} (h : Rd C w l cs) (h' : Rd C w l' cs') : Rd C w (l ++ l') (cs ++ cs') := by
  obtain ⟨h1, xs, h2, h3⟩ := h
  obtain ⟨k1, ys, k2, k3⟩ := h'
  exact ⟨by simp [h1, k1], xs ++ ys, h2.append k2, h3.append k3⟩
theorem Rd.nil : Rd C w [] [] := ⟨rfl, [], ⟨rfl, fun i s y h => by simp at h⟩, .none⟩
theorem Rd.single {s : Sc} {x : AV} {v : Value} (h : Imp s x) (hv : VR C (ghW w) x v) : Rd C w [s] [v] :=
  ⟨rfl, [x], ⟨rfl, fun i a b ha hb => by
    cases i with
    | zero => simp at ha hb; exact ha ▸ hb ▸ h
    | succ i => simp at ha⟩, .single hv h.one⟩

theorem rd_fields {P : Program} {sh : TypeId → Option (List Sc)} (cs : List Value) {rd : Field → Prop} (hrd : ∀ (f : Field) l, sh f.type = some l → P.cellsOf f.type = l.length → rd f → Rd C w l ((cs.drop f.offset).take (P.cellsOf f.type))) :
    ∀ (fl : List Field) (off : Nat) (l : List Sc), shFields P sh off fl = some l → (∀ f ∈ fl, rd f) → Rd C w l ((cs.drop off).take l.length)
  | [], off, l, h, _ => by simp only [shFields, Option.some.injEq] at h; subst h; simpa using Rd.nil
  | f :: r, off, l, h, hf => by
    simp only [shFields] at h
    split at h
    · cases h
    · rename_i l1 h1
      split at h
      · rename_i hc
        simp only [Option.map_eq_some_iff] at h
        obtain ⟨l2, h2, rfl⟩ := h
        have a := hrd f l1 h1 hc.2 (hf f (by simp))
        have b := rd_fields cs hrd r _ l2 h2 (fun f hm => hf f (by simp [hm]))
        rw [hc.1, hc.2] at a
        have := a.append b
        rw [List.length_append, List.take_add, List.drop_drop]
        exact this
      · cases h

theorem rd_array {l : List Sc} (cs : List Value) : ∀ (m : Nat), (∀ i, i < m → Rd C w l ((cs.drop (i * l.length)).take l.length)) → Rd C w (List.replicate m l).flatten (cs.take (m * l.length))
  | 0, _ => by simpa using Rd.nil
  | m + 1, h => by
    have a := rd_array cs m (fun i hi => h i (by omega))
    have b := h m (by omega)
    have := a.append b
    rw [Nat.succ_mul, List.take_add, List.replicate_succ', List.flatten_append]
    simpa using this

open Classical in
theorem trod_imp {P : Program} : ∀ (fuel n : Nat) (t : TypeId) (cs : List Value) (y : DataW H × List MemPlace) (l : List Sc), shOf P n t = some l → DataW.trod enc P w 0 (fun _ => true) true fuel t cs = some y → Rd C w l cs
  | 0, _, _, _, _, _, _, h => by simp [DataW.trod] at h
  | fuel + 1, 0, _, _, _, _, hs, _ => by simp [shOf] at hs
  | fuel + 1, n + 1, t, cs, y, l, hs, h => by
    simp only [shOf] at hs
    split at hs
    · rename_i hu
      obtain ⟨b, rfl, _⟩ := DataW.trod_bool hu h
      simp only [Option.some.injEq] at hs; subst hs
      exact .single (.bool b) (.bool b)
    · rename_i k hu
      obtain ⟨n, rfl, _, hw⟩ := DataW.trod_int hu h
      simp only [Option.some.injEq] at hs; subst hs
      exact .single (.int k n hw) (.int k n)
    · rename_i hu
      obtain ⟨s, rfl, _, hw⟩ := DataW.trod_string hu h
      simp only [Option.some.injEq] at hs; subst hs
      exact .single (.str _ (by rw [Array.length_toList]; exact hw)) (.str s)
    · rename_i e hu
      split at hs
      · cases hs
      rename_i le hle
      split at hs
      · rename_i hc
        obtain ⟨hce, hpos, hone⟩ := hc
        simp only [Option.some.injEq] at hs; subst hs
        rcases DataW.trod_slice hu h with ⟨rfl, _⟩ | ⟨a, len, cap, elems, rest, m, hm, rfl, _, _, hlc, hcm, hel, h1, h2, _⟩
        · exact .single (.nil _ _) .nil
        · have hm' : m = fuel := by omega
          subst hm'
          have hr := h2 rfl
          by_cases hcap : cap = 0
          · obtain rfl : len = 0 := by omega
            subst hcap
            exact .single (.c0 _ _) (.cap0 a)
          · -- each place's cells
            have cell : ∀ i, i < cap → ∃ ci y, w.cells? 0 (a.add (i * P.cellsOf e)) (P.cellsOf e) = some ci ∧ DataW.trod enc P w 0 (fun _ => true) true m e ci = some y := by
              intro i hi
              have key : ∃ y, (w.cells? 0 (a.add (i * P.cellsOf e)) (P.cellsOf e)).bind (DataW.trod enc P w 0 (fun _ => true) true m e) = some y := by
                by_cases hil : i < len
                · rw [h1 i hil]
                  exact ⟨_, List.getElem?_eq_getElem (by omega)⟩
                · have := hr.2 (i - len) (by omega)
                  rw [show len + (i - len) = i by omega] at this
                  rw [this]
                  exact ⟨_, List.getElem?_eq_getElem (by omega)⟩
              obtain ⟨y, hy⟩ := key
              simp only [Option.bind_eq_some_iff] at hy
              obtain ⟨ci, h1, h2⟩ := hy
              exact ⟨ci, y, h1, h2⟩
            have hsp : a.spot = none := by
              obtain ⟨ci, y, hci, _⟩ := cell 0 (by omega)
              obtain ⟨_, hl, hg⟩ := World.cells?_some hci
              have := hg 0 (by omega)
              rw [List.getElem?_eq_getElem (by omega)] at this
              simpa [Addr.add] using cell_spot this
            have rd : ∀ i, ∃ x : AV, i < len → (x.one = !isAg P e ∧ x.cells.length = le.length) ∧ (∀ (j : Nat) (s : Sc) (y : AV), le[j]? = some s → x.cells[j]? = some y → Imp s y) ∧
                (∀ c ∈ x.cells, c.one = true) ∧ ∀ (j : Nat) (y : AV), x.cells[j]? = some y → ∃ v, w.cell? ⟨a.block, a.off + i * le.length + j, none⟩ = some v ∧ VR C (ghW w) y v := by
              intro i
              by_cases hi : i < len
              · obtain ⟨ci, y, hci, hy⟩ := cell i (by omega)
                obtain ⟨_, hl, hg⟩ := World.cells?_some hci
                obtain ⟨hlen, xs, him, hcr⟩ := trod_imp m n e ci y le hle hy
                have main : ∀ x : AV, x.cells = xs → x.one = !isAg P e → (x.one = !isAg P e ∧ x.cells.length = le.length) ∧ (∀ (j : Nat) (s : Sc) (y : AV), le[j]? = some s → x.cells[j]? = some y → Imp s y) ∧
                    (∀ c ∈ x.cells, c.one = true) ∧ ∀ (j : Nat) (y : AV), x.cells[j]? = some y → ∃ v, w.cell? ⟨a.block, a.off + i * le.length + j, none⟩ = some v ∧ VR C (ghW w) y v := by
                  intro x hx ho
                  rw [hx]
                  refine ⟨⟨ho, him.1⟩, him.2, hcr.one, fun j y hj => ?_⟩
                  have hjl := (List.getElem?_eq_some_iff.1 hj).1
                  have hjc : j < ci.length := by rw [← hcr.len]; exact hjl
                  have hcell := hg j (by omega)
                  rw [List.getElem?_eq_getElem hjc, addr_add hsp, addr_add rfl, hce] at hcell
                  exact ⟨_, hcell, hcr.rel j y _ hj (List.getElem?_eq_getElem hjc)⟩
                cases hag : isAg P e with
                | true => exact ⟨.agg xs, fun _ => by have := main (.agg xs) rfl (by rw [hag]; rfl); rwa [hag] at this⟩
                | false =>
                  have h1 : xs.length = 1 := by rw [him.1]; exact hone hag
                  obtain ⟨x, rfl⟩ := List.length_eq_one_iff.1 h1
                  have ho := hcr.one x (by simp)
                  exact ⟨x, fun _ => by have := main x (AV.one_cells ho) (by rw [hag]; exact ho); rwa [hag] at this⟩
              · exact ⟨.undef, fun h => absurd h hi⟩
            have hf : ∀ i, i < len → _ := fun i hi => (rd i).choose_spec hi
            let f : Nat → AV := fun i => (rd i).choose
            have hget : ∀ (i : Nat) (x : AV), ((List.range len).map f)[i]? = some x → i < len ∧ x = f i := by
              intro i x hx
              have hi := (List.getElem?_eq_some_iff.1 hx).1
              simp at hi
              simp [hi] at hx
              exact ⟨hi, hx.symm⟩
            have hmem : ∀ x ∈ (List.range len).map f, ∃ i, i < len ∧ x = f i := by
              intro x hx
              obtain ⟨i, hi⟩ := List.getElem?_of_mem hx
              exact ⟨i, hget i x hi⟩
            refine .single (x := .list false ((List.range len).map f)) (.list _ _ _ (by simp; omega) (fun x hx => ?_) (fun x hx => ?_)) ?_
            · obtain ⟨i, hi, rfl⟩ := hmem x hx
              exact (hf i hi).1
            · obtain ⟨i, hi, rfl⟩ := hmem x hx
              exact (hf i hi).2.1
            · obtain ⟨ab, ao, as⟩ := a
              obtain rfl : as = none := hsp
              have := VR.list (C := C) (g := ghW w) ((List.range len).map f) ab ao cap le.length (fun i j => (w.cell? ⟨ab, ao + i * le.length + j, none⟩).getD undef) (by simp; omega)
                (fun i x hx => by
                  obtain ⟨hi, rfl⟩ := hget i x hx
                  exact ⟨(hf i hi).1.2, (hf i hi).2.2.1⟩)
                (fun i x hx he => by
                  obtain ⟨hi, rfl⟩ := hget i x hx
                  have := (hf i hi).1.2
                  have he' : (rd i).choose.cells = [] := he
                  rw [he'] at this
                  simp at this; omega)
                (fun i j hi hj => by
                  simp at hi
                  have hl : j < (f i).cells.length := by
                    have := (hf i hi).1.2
                    show j < (rd i).choose.cells.length
                    omega
                  obtain ⟨v, hv, _⟩ := (hf i hi).2.2.2 j _ (List.getElem?_eq_getElem hl)
                  show w.cell? _ = _
                  have hv' : w.cell? ⟨ab, ao + i * le.length + j, none⟩ = some v := hv
                  rw [hv']; rfl)
                (fun i j x y hx hy => by
                  obtain ⟨hi, rfl⟩ := hget i x hx
                  obtain ⟨v, hv, hr⟩ := (hf i hi).2.2.2 j y hy
                  have hv' : w.cell? ⟨ab, ao + i * le.length + j, none⟩ = some v := hv
                  rw [hv']; exact hr)
              simpa using this
      · cases hs
    · rename_i fs hu
      split at hs
      · cases hs
      rename_i lf hlf
      split at hs
      · rename_i hc
        simp only [Option.some.injEq] at hs; subst hs
        obtain ⟨xs, m, hm, _, hlen, hxl, hx⟩ := DataW.trod_struct hu h
        have hm' : m = fuel := by omega
        subst hm'
        have := rd_fields (C := C) (w := w) (P := P) (sh := shOf P n) cs (rd := fun f => ∃ y, DataW.trod enc P w 0 (fun _ => true) true m f.type ((cs.drop f.offset).take (P.cellsOf f.type)) = some y)
          (fun f l hl _ ⟨y, hy⟩ => trod_imp m n f.type _ y l hl hy) fs.toList 0 lf hlf (fun f hf => by
            obtain ⟨i, hi⟩ := List.getElem?_of_mem hf
            have hi' : fs[i]? = some f := by simpa using hi
            rw [hx i f hi']
            have hil := (Array.getElem?_eq_some_iff.1 hi').1
            exact ⟨_, List.getElem?_eq_getElem (by omega)⟩)
        rw [List.drop_zero, ← hc, ← hlen, List.take_length] at this
        exact this
      · cases hs
    · rename_i m e hu
      split at hs
      · cases hs
      rename_i le hle
      split at hs
      · rename_i hc
        simp only [Option.some.injEq] at hs; subst hs
        obtain ⟨xs, m', hm, _, hlen, hxl, hx⟩ := DataW.trod_array hu h
        have hm' : m' = fuel := by omega
        subst hm'
        have := rd_array (C := C) (w := w) (l := le) cs m (fun i hi => by
          have hy := hx i hi
          rw [hc.1] at hy
          rw [List.getElem?_eq_getElem (by omega)] at hy
          exact trod_imp m' n e _ _ le hle hy)
        rw [← hc.2, ← hlen, List.take_length] at this
        exact this
      · cases hs
    · cases hs

def ImpV (ag : Bool) (l : List Sc) (x : AV) : Prop := match ag with
  | true => ∃ xs, x = .agg xs ∧ ImpL l xs
  | false => ∃ s, l = [s] ∧ Imp s x

theorem okWide_one {P : Program} {r : Reach} {base : Nat} {t : TypeId} {v : Value} (hag : isAg P t = false) {l : List Sc} {n : Nat} (hs : shOf P n t = some l) (h : Value.okWide P w r base t v) : v.cells = #[v] := by
  cases n with
  | zero => simp [shOf] at hs
  | succ n =>
    unfold Value.okWide at h
    unfold isAg at hag
    split at h
    · rename_i hu; rw [hu] at hag; cases hag
    · rename_i hu; rw [hu] at hag; cases hag
    · cases v <;> try rfl
      simp only [shOf] at hs
      unfold Cell.okWide at h
      split at h
      all_goals first | (rename_i h1 h2; cases h2; done) | skip
      unfold Cell.ok at h
      split at h
      all_goals first | (rename_i h1 h2; cases h2; done) | exact h.elim

theorem arg_imp {P : Program} {r : Reach} {base n : Nat} {t : TypeId} {v : Value} {d : DataW H} {ps : List MemPlace} {l : List Sc} (hs : shOf P n t = some l) (hok : Value.okWide P w r base t v)
    (h : DataW.Trod enc P w 0 (fun _ => true) true t v d ps) : ∃ x, ImpV (isAg P t) l x ∧ VR C (ghW w) x v := by
  obtain ⟨fuel, hf⟩ := h
  obtain ⟨hlen, xs, him, hcr⟩ := trod_imp (C := C) fuel n t _ _ l hs hf
  cases hag : isAg P t with
  | false =>
    have hc := okWide_one hag hs hok
    rw [hc] at hlen hcr
    simp at hlen
    have h1 : l.length = 1 := hlen.symm
    obtain ⟨s, rfl⟩ := List.length_eq_one_iff.1 h1
    have h2 : xs.length = 1 := him.1
    obtain ⟨x, rfl⟩ := List.length_eq_one_iff.1 h2
    exact ⟨x, ⟨s, rfl, him.2 0 s x rfl rfl⟩, hcr.rel 0 x v rfl rfl⟩
  | true =>
    have hv : ∃ cs, v = .agg cs := by
      unfold Value.okWide at hok
      unfold isAg at hag
      split at hok
      · obtain ⟨cs, h, _⟩ := hok; exact ⟨cs, h⟩
      · obtain ⟨cs, h, _⟩ := hok; exact ⟨cs, h⟩
      · rename_i h1 h2
        split at hag
        · rename_i hu; exact absurd hu (h1 _)
        · rename_i hu; exact absurd hu (h2 _ _)
        · cases hag
    obtain ⟨cs, rfl⟩ := hv
    refine ⟨.agg xs, ⟨xs, rfl, him⟩, .agg xs cs (by simpa [Value.cells] using hcr.len) hcr.one (fun i x y hx hy => hcr.rel i x y hx (by simpa [Value.cells] using hy))⟩
end

section
variable {H : Type} {enc : TypeId × Value → H} {P : Program} {w : World} {base : Nat} {spare : Nat → Bool} {held : Bool}
theorem trodAll_five {t0 t1 t2 t3 t4 : TypeId} {args : Array Value} {ds : List (DataW H)} {ps : List MemPlace} (h : DataW.TrodAll enc P w base spare held [t0, t1, t2, t3, t4] args.toList ds ps) :
    ∃ v0 v1 v2 v3 v4 d0 d1 d2 d3 d4 p0 p1 p2 p3 p4, args = #[v0, v1, v2, v3, v4] ∧ ds = [d0, d1, d2, d3, d4] ∧ ps = p0 ++ (p1 ++ (p2 ++ (p3 ++ p4))) ∧ DataW.Trod enc P w base spare held t0 v0 d0 p0 ∧ DataW.Trod enc P w base spare held t1 v1 d1 p1 ∧ DataW.Trod enc P w base spare held t2 v2 d2 p2 ∧ DataW.Trod enc P w base spare held t3 v3 d3 p3 ∧ DataW.Trod enc P w base spare held t4 v4 d4 p4 := by
  obtain ⟨v0, vs0, d0, ds0, p0, q0, hargs, rfl, rfl, h0, k0⟩ := trodAll_cons h
  obtain ⟨v1, vs1, d1, ds1, p1, q1, rfl, rfl, rfl, h1, k1⟩ := trodAll_cons k0
  obtain ⟨v2, vs2, d2, ds2, p2, q2, rfl, rfl, rfl, h2, k2⟩ := trodAll_cons k1
  obtain ⟨v3, vs3, d3, ds3, p3, q3, rfl, rfl, rfl, h3, k3⟩ := trodAll_cons k2
  obtain ⟨v4, vs4, d4, ds4, p4, q4, rfl, rfl, rfl, h4, k4⟩ := trodAll_cons k3
  obtain ⟨rfl, rfl, rfl⟩ := trodAll_nil k4
  exact ⟨v0, v1, v2, v3, v4, d0, d1, d2, d3, d4, p0, p1, p2, p3, p4, by cases args; simp_all, rfl, by simp, h0, h1, h2, h3, h4⟩
theorem trodAll_mk5 {t0 t1 t2 t3 t4 : TypeId} {v0 v1 v2 v3 v4 : Value} {d0 d1 d2 d3 d4 : DataW H} {p0 p1 p2 p3 p4 : List MemPlace} (h0 : DataW.Trod enc P w base spare held t0 v0 d0 p0) (h1 : DataW.Trod enc P w base spare held t1 v1 d1 p1) (h2 : DataW.Trod enc P w base spare held t2 v2 d2 p2)
    (h3 : DataW.Trod enc P w base spare held t3 v3 d3 p3) (h4 : DataW.Trod enc P w base spare held t4 v4 d4 p4) : DataW.TrodAll enc P w base spare held [t0, t1, t2, t3, t4] [v0, v1, v2, v3, v4] [d0, d1, d2, d3, d4] (p0 ++ (p1 ++ (p2 ++ (p3 ++ p4)))) := ⟨p0, _, h0, trodAll_mk4 h1 h2 h3 h4, rfl⟩
end

theorem laid_calls {C : Cx} {Φ : Nat → Option AFn} (hK : Known C Φ) {f : Nat} {fid : FuncId} (hf : C.fm f = some fid) {vs : List AV} {ws : Array Value} (w : World) (hl : vs.length = ws.size) (hv : ∀ (i : Nat) (x : AV) (y : Value), vs[i]? = some x → ws[i]? = some y → VR C (ghW w) x y)
    {b : Bool} {H' : Heap} (h : evC Φ f vs heap0 = some (.ret (.bool b) H'))
    (hw : ∀ b o v, C.gl b o = some v → w.cell? ⟨b, o, none⟩ = some v ∧ b < w.heap.size) :
    Calls C.P fid ws w fun e w' => e = .returned (.bool b) ∧ Below w.heap.size w w' := by
  refine (calls_ev hK f vs heap0 _ h fid hf (ghW w) (ownW w) w.heap.size w ws (stW C w fun b o v h => (hw b o v h).1) (fun b o s h => by rcases ownW_or w b o with h' | ⟨h', _⟩ <;> rw [h'] at h <;> cases h) hl hv).mono fun e w' hq => ?_
  obtain ⟨g', own', _, ⟨rv, rfl, hrv⟩, hE, _⟩ := hq
  cases hrv
  exact ⟨rfl, hE.below⟩
end Ey

set_option maxRecDepth 100000
namespace Ey
open Go (IntKind)
variable {Φ : Nat → Option AFn}

def lv (f : Option Bool) (xs : List AV) : AV := match f with
  | none => .cap0
  | some n => .list n xs
def Fo (f : Option Bool) (xs : List AV) : Prop := f ≠ some false → xs = []
def AllC (sz : Nat) (xs : List AV) : Prop := ∀ x ∈ xs, x.cells.length = sz

theorem Fo.take {f : Option Bool} {xs : List AV} (h : Fo f xs) (n : Nat) : Fo f (xs.take n) := fun hf => by rw [h hf]; simp
theorem Fo.drop {f : Option Bool} {xs : List AV} (h : Fo f xs) (n : Nat) : Fo f (xs.drop n) := fun hf => by rw [h hf]; simp
theorem fo_false (xs : List AV) : Fo (some false) xs := fun h => absurd rfl h

theorem allC_all {sz : Nat} {xs : List AV} (h : AllC sz xs) : xs.all (fun x => x.cells.length == sz) = true := by
  rw [List.all_eq_true]; intro x hx; simpa using h x hx

theorem lenAV_lv {f : Option Bool} {xs : List AV} (h : Fo f xs) : lenAV (lv f xs) = some xs.length := by
  cases f with
  | none => rw [h (by simp)]; rfl
  | some n => rfl
theorem elemsOf_lv {f : Option Bool} {xs : List AV} {H : Heap} {sz : Nat} (h : Fo f xs) (ha : AllC sz xs) : elemsOf H sz (lv f xs) = some xs := by
  cases f with
  | none => rw [h (by simp)]; rfl
  | some n => simp only [lv, elemsOf, allC_all ha, if_true]
theorem slBounds_hi {len n : Nat} (h : n ≤ len) : slBounds len none (some (.int .i64 n)) = some (0, n) := by
  simp [slBounds, getI, h]
theorem slBounds_lo {len n : Nat} (h : n ≤ len) : slBounds len (some (.int .i64 n)) none = some (n, len) := by
  simp [slBounds, getI, h]
theorem sl_hi {f : Option Bool} {xs : List AV} {H : Heap} {sz n : Nat} (h : Fo f xs) (ha : AllC sz xs) (hn : n ≤ xs.length) : slAV H sz (lv f xs) none (some (.int .i64 n)) none = some (lv f (xs.take n)) := by
  cases f with
  | none =>
    rw [h (by simp)] at hn
    simp only [List.length_nil] at hn
    simp only [lv, slAV, slBounds_hi hn, Option.map_some]
  | some b => simp only [lv, slAV, allC_all ha, if_true, slBounds_hi hn, Option.map_some, List.drop_zero, Nat.sub_zero]
theorem sl_lo {f : Option Bool} {xs : List AV} {H : Heap} {sz n : Nat} (h : Fo f xs) (ha : AllC sz xs) (hn : n ≤ xs.length) : slAV H sz (lv f xs) (some (.int .i64 n)) none none = some (lv f (xs.drop n)) := by
  cases f with
  | none =>
    rw [h (by simp)] at hn
    simp only [List.length_nil] at hn
    simp only [lv, slAV, slBounds_lo hn, Option.map_some]
  | some b =>
    simp only [lv, slAV, allC_all ha, if_true, slBounds_lo hn, Option.map_some]
    rw [List.take_of_length_le (by simp)]

def byt (x : UInt8) : AV := .int .u8 x.toNat
theorem byt_cells (l : List UInt8) : AllC 1 (l.map byt) := fun x hx => by
  obtain ⟨y, _, rfl⟩ := List.mem_map.1 hx; rfl
def ints (k : IntKind) (l : List Int) : List AV := l.map fun n => .int k n
theorem ints_cells (k : IntKind) (l : List Int) : AllC 1 (ints k l) := fun x hx => by
  obtain ⟨y, _, rfl⟩ := List.mem_map.1 hx; rfl

theorem heap_ext {H H' : Heap} (h1 : H.next = H'.next) (h2 : H.ro = H'.ro) (h3 : ∀ i, H.get i = H'.get i) : H = H' := by
  obtain ⟨a, b, c⟩ := H; obtain ⟨a', b', c'⟩ := H'
  simp only at h1 h2 h3
  subst h1; subst h2
  obtain rfl : c = c' := funext h3
  rfl
end Ey
namespace Ey
open Go (IntKind)
theorem under_byt (n : Nat) : ∀ l : List UInt8, AV.underAll n (l.map byt) = true
  | [] => rfl
  | x :: l => by simp only [List.map_cons, AV.underAll, byt, AV.under, Bool.true_and]; exact under_byt n l
theorem under_ints (n : Nat) (k : IntKind) : ∀ l : List Int, AV.underAll n (ints k l) = true
  | [] => rfl
  | x :: l => by
    have := under_ints n k l
    simp only [ints, List.map_cons, AV.underAll, AV.under, Bool.true_and] at this ⊢; exact this
theorem take_len_map {α β : Type} (f : α → β) (l : List α) : (l.map f).take l.length = l.map f := List.take_of_length_le (by simp)
end Ey
namespace Ey
open Go (IntKind)
theorem lv_cells (f : Option Bool) (xs : List AV) : (lv f xs).cells = [lv f xs] := by cases f <;> rfl
theorem put_put (H : Heap) (i : Nat) (a b : Option Blk) : (H.put i a).put i b = H.put i b := by
  refine heap_ext rfl rfl fun j => ?_
  simp only [Heap.put]
  split <;> rfl
theorem put_eta (H : Heap) (i : Nat) (a : Option Blk) : (⟨(H.put i a).next, H.ro, (H.put i a).get⟩ : Heap) = H.put i a := rfl
theorem heap_eta (H : Heap) : (⟨H.next, H.ro, H.get⟩ : Heap) = H := rfl
theorem put_next (H : Heap) (i : Nat) (a : Option Blk) : (H.put i a).next = H.next := rfl
theorem put_ro (H : Heap) (i : Nat) (a : Option Blk) : (H.put i a).ro = H.ro := rfl
theorem put_get (H : Heap) (i : Nat) (a : Option Blk) : (H.put i a).get i = a := by simp [Heap.put]
theorem put_ne (H : Heap) {i j : Nat} (a : Option Blk) (h : j ≠ i) : (H.put i a).get j = H.get j := by simp [Heap.put, h]
end Ey
namespace Ey
open Go (IntKind)
/-! ### parts of code -/
def ACode.L : ACode → ACode
  | .seq a _ => a
  | _ => .skip
def ACode.R : ACode → ACode
  | .seq _ b => b
  | _ => .skip
def ACode.T : ACode → ACode
  | .cond _ a _ => a
  | _ => .skip
def ACode.E : ACode → ACode
  | .cond _ _ b => b
  | _ => .skip
def ACode.K : ACode → ACode
  | .block _ a => a
  | _ => .skip
def ACode.P : ACode → ACode
  | .loop _ a => a
  | _ => .skip
def ACode.B : ACode → ACode
  | .dfr _ _ _ _ b _ => b
  | _ => .skip
def ACode.Q : ACode → ACode
  | .dfr _ _ _ _ _ q => q
  | _ => .skip

theorem new_get (H : Heap) (b : Blk) : (H.new b).get H.next = some b := by simp [Heap.new]
theorem new_old (H : Heap) (b : Blk) {j : Nat} (h : j < H.next) : (H.new b).get j = H.get j := by
  simp only [Heap.new]; rw [if_neg (by omega)]
theorem new_ne (H : Heap) (b : Blk) {j : Nat} (h : j ≠ H.next) : (H.new b).get j = H.get j := by
  simp only [Heap.new]; rw [if_neg h]
theorem new_next (H : Heap) (b : Blk) : (H.new b).next = H.next + 1 := rfl
theorem new_ro (H : Heap) (b : Blk) : (H.new b).ro = H.ro := rfl

theorem or_bytes (x y : UInt8) : ((BitVec.ofInt 64 ((x.toNat : Int) * 256) ||| BitVec.ofInt 64 (y.toNat : Int)).toNat : Int) = x.toNat * 256 + y.toNat := by
  have hx := x.toNat_lt; have hy := y.toNat_lt
  have e1 : (BitVec.ofInt 64 ((x.toNat : Int) * 256)).toNat = x.toNat <<< 8 := by
    rw [BitVec.toNat_ofInt, Nat.shiftLeft_eq]
    omega
  have e2 : (BitVec.ofInt 64 (y.toNat : Int)).toNat = y.toNat := by
    rw [BitVec.toNat_ofInt]
    omega
  rw [BitVec.toNat_or, e1, e2, ← Nat.shiftLeft_add_eq_or_of_lt (by omega), Nat.shiftLeft_eq]
  omega
end Ey
namespace Ey
open Go (IntKind)
variable {Φ : Nat → Option AFn}
/-! ### what holds behind code: where it goes on (Q), where it panics (R) -/
def Pst (o : Option Out) (Q : Ex → Env → Heap → Prop) (R : AV → Env → Heap → Prop) : Prop := match o with
  | some (.go x e H) => Q x e H
  | some (.pan v e H) => R v e H
  | none => False
theorem pst_go {x : Ex} {e : Env} {H : Heap} {Q : Ex → Env → Heap → Prop} {R : AV → Env → Heap → Prop} : Pst (some (.go x e H)) Q R = Q x e H := rfl
theorem pst_pan {v : AV} {e : Env} {H : Heap} {Q : Ex → Env → Heap → Prop} {R : AV → Env → Heap → Prop} : Pst (some (.pan v e H)) Q R = R v e H := rfl
theorem Pst.mono {o : Option Out} {Q Q' : Ex → Env → Heap → Prop} {R R' : AV → Env → Heap → Prop} (h : Pst o Q R) (hq : ∀ x e H, Q x e H → Q' x e H) (hr : ∀ v e H, R v e H → R' v e H) : Pst o Q' R' := by
  cases o with
  | none => exact h
  | some o => cases o with
    | go x e H => exact hq _ _ _ h
    | pan v e H => exact hr _ _ _ h
def Onw (Q : Env → Heap → Prop) : Ex → Env → Heap → Prop := fun x e H => match x with
  | .nrm => Q e H
  | _ => False
def Nx (Q : Env → Heap → Prop) (Q' : Ex → Env → Heap → Prop) : Ex → Env → Heap → Prop := fun x e H => match x with
  | .nrm => Q e H
  | x => Q' x e H
theorem pst_seq {a b : ACode} {e : Env} {H : Heap} {Q : Ex → Env → Heap → Prop} {R : AV → Env → Heap → Prop} (h : Pst (evX Φ a e H) (Nx (fun e' H' => Pst (evX Φ b e' H') Q R) Q) R) : Pst (evX Φ (.seq a b) e H) Q R := by
  rw [evX_seq]
  cases ho : evX Φ a e H with
  | none => rw [ho] at h; exact h
  | some o =>
    rw [ho] at h
    rcases o with ⟨x, e', H'⟩ | ⟨v, e', H'⟩
    · cases x <;> exact h
    · exact h
theorem pst_block {i : Nat} {a : ACode} {e : Env} {H : Heap} {Q : Ex → Env → Heap → Prop} {R : AV → Env → Heap → Prop} (h : Pst (evX Φ a e H) (fun x e' H' => match x with | .exit j => if j = i then Q .nrm e' H' else Q (.exit j) e' H' | x => Q x e' H') R) : Pst (evX Φ (.block i a) e H) Q R := by
  rw [evX_block]
  cases ho : evX Φ a e H with
  | none => rw [ho] at h; exact h
  | some o =>
    rw [ho] at h
    rcases o with ⟨x, e', H'⟩ | ⟨v, e', H'⟩
    · cases x with
      | nrm => exact h
      | ret => exact h
      | exit j =>
        simp only [Pst] at h
        show Pst (if j = i then _ else _) Q R
        split
        · rename_i hj; rw [if_pos hj] at h; exact h
        · rename_i hj; rw [if_neg hj] at h; exact h
    · exact h
theorem pst_cond {c : Opd} {a b : ACode} {e : Env} {H : Heap} {Q : Ex → Env → Heap → Prop} {R : AV → Env → Heap → Prop} {t : Bool} (hc : e.av c = some (.bool t)) (h : Pst (match t with | true => evX Φ a e H | false => evX Φ b e H) Q R) : Pst (evX Φ (.cond c a b) e H) Q R := by
  rw [evX_cond, hc]
  cases t <;> exact h
theorem pst_loop {k : List Nat} {a : ACode} {Q : Ex → Env → Heap → Prop} {R : AV → Env → Heap → Prop} (I : Nat → Env → Heap → Prop) (h : ∀ n e H, I n e H → Pst (evX Φ a e H) (Nx (fun e' H' => ∃ m, m < n ∧ I m (keepS k e') H') Q) R) :
    ∀ n e H, I n (keepS k e) H → Pst (evX Φ (.loop k a) e H) Q R := by
  intro n
  induction n using Nat.strongRecOn with
  | ind n ih =>
    intro e H hi
    have h1 := h n _ _ hi
    rw [evX_loop]
    cases ho : evX Φ a (keepS k e) H with
    | none => rw [ho] at h1; exact h1
    | some o =>
      rw [ho] at h1
      rcases o with ⟨x, e', H'⟩ | ⟨v, e', H'⟩
      · cases x with
        | nrm =>
          obtain ⟨m, hm, hi'⟩ := h1
          exact ih m hm e' H' hi'
        | exit j => exact h1
        | ret => exact h1
      · exact h1
theorem Pst.get {o : Option Out} {Q : Env → Heap → Prop} (h : Pst o (Onw Q) fun _ _ _ => False) : ∃ e H, o = some (.go .nrm e H) ∧ Q e H := by
  cases o with
  | none => exact h.elim
  | some o => cases o with
    | go x e H =>
      cases x with
      | nrm => exact ⟨e, H, rfl, h⟩
      | _ => exact h.elim
    | pan v e H => exact h.elim
end Ey
