/- The fast form: operations that change something. -/
import Derived.Test.YtijaafflmbjdgaaGreatDoorEyB3
import Derived.Below
import Derived.ChangeSame
import Derived.Lib.LaidTab
import Derived.Stop.LaidErr
import Derived.MakeChecks
import Derived.LaidMore
import Derived.LaidHandle
import Derived.Stop.Joined
import GoSem.PinnedTables
namespace Ey
open Go (IntKind FloatKind BinOp UnOp)

abbrev ZCaller := Nat → V → ZH → FR
def AgrZ (cl : ZCaller) (c : Caller) : Prop := ∀ f w H, H.ok → Agf (cl f w H) (c f w.cl H.heap)

structure KR (J : List Nat) where
  r : E J → ZH → FR
  p : V → E J → ZH → FR

def Oc (S S' J : List Nat) : Type := ZCaller → (E S' → ZH → FR) → KR J → E S → ZH → FR

/-! ### slots set, slots chosen -/
def dS (d : Option Nat) (S : List Nat) : List Nat := match d with
  | none => S
  | some s => s :: S
noncomputable def setD (d : Option Nat) {S : List Nat} (e : E S) (v : V) : E (dS d S) := @Option.rec Nat (fun d => E (dS d S)) e (fun s => E.cons s v e) d
theorem rel_setD {S : List Nat} {e : E S} {x : Env} (h : Rel S e x) (d : Option Nat) {v : V} {s : Sl} (hv : v.den s) : Rel (dS d S) (setD d e v) (setDst d s x) := by
  cases d with
  | none => exact h
  | some a => exact rel_cons h a hv
structure Nm (S J : List Nat) where
  run : E S → E J
def nrmC (S : List Nat) : (J : List Nat) → Nm S J
  | [] => ⟨fun _ => E.none⟩
  | j :: r => ⟨fun e => E.cons j ((acc S j).run e) ((nrmC S r).run e)⟩
theorem rel_nrm {S : List Nat} {e : E S} {x : Env} (h : Rel S e x) : ∀ J : List Nat, Rel J ((nrmC S J).run e) x
  | [] => fun s => trivial
  | j :: r => fun s => by
    simp only [getE]
    split
    · rename_i hs
      subst hs
      show ((acc S s).run e).den _
      rw [acc_eq]; exact h s
    · exact rel_nrm h r s
structure Up (S : List Nat) where
  run : E S → V → E S
def upC : (S : List Nat) → Nat → Up S
  | [], _ => ⟨fun e _ => e⟩
  | a :: r, s => bif Nat.beq s a then ⟨fun e v => E.cons a v e.tl⟩ else ⟨fun e v => E.cons a e.hd ((upC r s).run e.tl v)⟩
theorem upC_get : ∀ (S : List Nat) (s : Nat) (e : E S) (v : V) (t : Nat), getE S ((upC S s).run e v) t = getE S e t ∨ (t = s ∧ getE S ((upC S s).run e v) t = v)
  | [], _, _, _, _ => .inl rfl
  | a :: r, s, e, v, t => by
    simp only [upC, beq_dec]
    by_cases h : s = a
    · subst h
      simp only [decide_true, cond_true, getE]
      by_cases ht : t = s
      · exact .inr ⟨ht, by rw [if_pos ht]; rfl⟩
      · rw [if_neg ht, if_neg ht]; exact .inl rfl
    · simp only [h, decide_false, cond_false, getE]
      by_cases ht : t = a
      · rw [if_pos ht, if_pos ht]; exact .inl rfl
      · rw [if_neg ht, if_neg ht]; exact upC_get r s e.tl v t
theorem upC_miss : ∀ (S : List Nat) (s : Nat) (e : E S) (v : V), getE S ((upC S s).run e v) s = v ∨ getE S ((upC S s).run e v) s = .wh
  | [], _, _, _ => .inr rfl
  | a :: r, s, e, v => by
    simp only [upC, beq_dec]
    by_cases h : s = a
    · subst h
      simp only [decide_true, cond_true, getE, if_true]; exact .inl rfl
    · simp only [h, decide_false, cond_false, getE, if_false]
      exact upC_miss r s e.tl v
theorem rel_up {S : List Nat} {e : E S} {x : Env} (h : Rel S e x) (s : Nat) {v : V} {sl : Sl} (hv : v.den sl) : Rel S ((upC S s).run e v) ((s, sl) :: x) := by
  intro t
  simp only [Env.get]
  by_cases ht : t = s
  · subst ht
    rw [if_pos rfl]
    rcases upC_miss S t e v with h1 | h1 <;> rw [h1]
    · exact hv
    · trivial
  · rw [if_neg ht]
    rcases upC_get S s e v t with h1 | h1
    · rw [h1]; exact h t
    · exact absurd h1.1 ht

def Go1 {S' : List Nat} (κ : E S' → ZH → FR) (q : Pr) (o : Option Out) : Prop := ∀ e' x' H', H'.ok → o = some (.go .nrm x' H'.heap) → Rel S' e' x' → Agr (κ e' H') q
def Pan1 {J : List Nat} (kr : KR J) (q : Pr) (o : Option Out) : Prop := ∀ v er x' H', H'.ok → o = some (.pan v.av x' H'.heap) → v.pv = some v.av → Rel J er x' → Agr (kr.p v er H') q
def OcOK {S S' J : List Nat} (d : Option Nat) (op : AOp) (oc : Oc S S' J) : Prop := ∀ (cl : ZCaller) (c : Caller), AgrZ cl c → ∀ (e : E S) (x : Env) (H : ZH) (κ : E S' → ZH → FR) (kr : KR J) (q : Pr), H.ok → Rel S e x →
  Go1 κ q (opS c d x H.heap op) → Pan1 kr q (opS c d x H.heap op) → Agr (oc cl κ kr e H) q

section
variable {S J : List Nat}

noncomputable def natR (n : Nat) (k : Nat → FR) : FR := @Nat.rec (fun _ => FR) (k 0) (fun m _ => k (Nat.succ m)) n
theorem natR_eq (n : Nat) (k : Nat → FR) : natR n k = k n := by cases n <;> rfl
noncomputable def hK (H : ZH) (k : Nat → Nat → HB → FR) : FR := @ZH.rec (fun _ => FR) k H
theorem hK_eq (H : ZH) (k : Nat → Nat → HB → FR) : hK H k = k H.next H.ro H.bl := rfl
noncomputable def nwO (H : ZH) (c : V) (k : Nat → ZH → FR) : FR := hK H fun nx ro bl => natR nx fun i => k i ⟨Nat.succ i, ro, sO i c bl⟩
theorem nwO_eq (H : ZH) (c : V) (k : Nat → ZH → FR) : nwO H c k = k H.next ⟨H.next + 1, H.ro, sO H.next c H.bl⟩ := by
  rw [nwO, hK_eq, natR_eq]
noncomputable def nwA (H : ZH) (nl : Bool) (sz len : Nat) (c : V) (k : Nat → ZH → FR) : FR := hK H fun nx ro bl => natR nx fun i => k i ⟨Nat.succ i, ro, sA i nl sz len c bl⟩
theorem nwA_eq (H : ZH) (nl : Bool) (sz len : Nat) (c : V) (k : Nat → ZH → FR) : nwA H nl sz len c k = k H.next ⟨H.next + 1, H.ro, sA H.next nl sz len c H.bl⟩ := by
  rw [nwA, hK_eq, natR_eq]

noncomputable def oPv (d : Option Nat) (p : Pv S) : Oc S (dS d S) J := (fun _ κ _ e H => p e H fun w => κ (setD d e w) H)
theorem oPv_ok {d : Option Nat} {op : AOp} {p : Pv S} (hp : PvOK op p) (hop : ∀ c x H, opS c d x H op = match opv x H op with | some s => some (.go .nrm (setDst d s x) H) | none => none) : OcOK d op (oPv (J := J) d p) := fun cl c hcl e x H κ kr q hH h hg _ => by
  refine hp e x H _ q hH h fun w s hs hw => hg _ (setDst d s x) H hH ?_ (rel_setD h d hw)
  rw [hop, hs]

noncomputable def oAlv (s : Nat) (cs : List AV) : Oc S (s :: S) J := (fun _ κ _ e H => nlK ((acc S s).run e) .bad (κ (E.cons s (.lv (ofCs cs)) e) H))
theorem get_den {e : E S} {x : Env} (h : Rel S e x) (s : Nat) : ((acc S s).run e).den (x.get s) := by rw [acc_eq]; exact h s
theorem oAlv_ok (s : Nat) (cs : List AV) : OcOK (some s) (.alv cs) (oAlv (S := S) (J := J) s cs) := fun cl c hcl e x H κ kr q hH h hg _ => by
  unfold oAlv
  refine nlK_ok (P := fun r => Agr r q) (get_den h s) q.bad fun hn => hg _ ((s, .lv cs) :: x) H hH ?_ (rel_cons h s (by show Sl.lv cs = .lv (ofCs cs).cl; rw [ofCs_cl]))
  simp only [opS]
noncomputable def oBlv (s sz : Nat) (v : Opd) : Oc S (s :: S) J := (fun _ κ _ e H => nlK ((acc S s).run e) .bad (ceK ((opd S v).run e) .bad fun c => ifB (Nat.beq (lenC c) sz) .bad (κ (E.cons s (.lv c) e) H)))
theorem oBlv_ok (s sz : Nat) (v : Opd) : OcOK (some s) (.blv sz v) (oBlv (S := S) (J := J) s sz v) := fun cl c hcl e x H κ kr q hH h hg _ => by
  unfold oBlv
  refine nlK_ok (P := fun r => Agr r q) (get_den h s) q.bad fun hn => ceK_ok (P := fun r => Agr r q) q.bad fun w hp hw => ?_
  rw [ifB_beq, lenC_eq]
  split
  · rename_i hl
    rw [hw] at hl
    refine hg _ ((s, .lv ((opd S v).run e).av.cells) :: x) H hH ?_ (rel_cons h s (by show Sl.lv _ = .lv w.cl; rw [hw]))
    simp only [opS, opd_val h v _ hp]
    rw [if_pos hl]
  · exact q.bad
noncomputable def oAob (d : Option Nat) (cs : List AV) : Oc S (dS d S) J := (fun _ κ _ e H => nwO H (ofCs cs) fun i H' => κ (setD d e (.pt i 0)) H')
theorem oAob_ok (d : Option Nat) (cs : List AV) : OcOK d (.aob cs) (oAob (S := S) (J := J) d cs) := fun cl c hcl e x H κ kr q hH h hg _ => by
  show Agr (nwO H (ofCs cs) fun i H' => κ (setD d e (.pt i 0)) H') q
  rw [nwO_eq]
  refine hg _ (setDst d (.v (.ptr H.next 0)) x) _ (sO_ok hH) ?_ (rel_setD h d rfl)
  rw [heap_new_obj, ofCs_cl]; rfl
noncomputable def oBob (d : Option Nat) (sz : Nat) (v : Opd) : Oc S (dS d S) J := (fun _ κ _ e H => ceK ((opd S v).run e) .bad fun c => ifB (Nat.beq (lenC c) sz) .bad (nwO H c fun i H' => κ (setD d e (.pt i 0)) H'))
theorem oBob_ok (d : Option Nat) (sz : Nat) (v : Opd) : OcOK d (.bob sz v) (oBob (S := S) (J := J) d sz v) := fun cl c hcl e x H κ kr q hH h hg _ => by
  unfold oBob
  refine ceK_ok (P := fun r => Agr r q) q.bad fun w hp hw => ?_
  rw [ifB_beq, lenC_eq, nwO_eq]
  split
  · rename_i hl
    rw [hw] at hl
    refine hg _ (setDst d (.v (.ptr H.next 0)) x) _ (sO_ok hH) ?_ (rel_setD h d rfl)
    rw [heap_new_obj, hw]
    simp only [opS, opd_val h v _ hp]
    rw [if_pos hl]; rfl
  · exact q.bad

/-! ### stores -/
noncomputable def puE (y : V) (off : Nat) (w : V) (k : V → FR) : FR := ceK y .bad fun c => ifB (Nat.ble (Nat.add off (lenC w)) (lenC c)) .bad
  (ifB (Nat.beq (lenC c) (lenC w)) (k (.ag (putC' c off w))) (agK y (nthZ .bad k w 0) fun _ => k (.ag w)))
theorem puE_ok {q : Pr} {y : V} {off : Nat} {w : V} {k : V → FR} (hk : ∀ u : V, off + w.cl.length ≤ y.av.cells.length → u.av = putElem y.av off w.cl → Agr (k u) q) : Agr (puE y off w k) q := by
  refine ceK_ok' (P := fun r => Agr r q) q.bad fun c hp hc ho => ?_
  rw [ifB_ble, ifB_beq, lenC_eq, lenC_eq, hc]
  split
  · rename_i h1
    have h1' : off + w.cl.length ≤ y.av.cells.length := h1
    split
    · rename_i h2
      have ho' : off = 0 := by omega
      subst ho'
      rcases ho with ⟨u, rfl⟩ | hn
      · exact hk (.ag w) h1' (by simp only [putElem, h2, and_self, if_true]; rfl)
      · have e : agK y (nthZ .bad k w 0) (fun _ => k (.ag w)) = nthZ .bad k w 0 := by
          cases y <;> first | rfl | exact absurd rfl (hn _)
        rw [e]
        refine nthZ_ok (P := fun r => Agr r q) q.bad w 0 fun v hv => hk v h1' ?_
        simp only [putElem, h2, and_self, if_true]
        have : w.cl.headD .undef = v.av := by
          cases hw : w.cl with
          | nil => rw [hw] at hv; simp at hv
          | cons a l => rw [hw] at hv; simp at hv; simp [hv]
        exact this.symm
    · rename_i h2
      refine hk (.ag _) h1' ?_
      simp only [V.av, putElem]
      rw [if_neg (fun h => h2 h.1), putC'_eq w (by rw [hc]; exact h1'), hc]
  · exact q.bad

noncomputable def stO (H : ZH) (i off : Nat) (w : V) (k : ZH → FR) : FR := hK H fun nx ro bl => ifB (Nat.ble ro i) .bad (obK i .bad (fun c => ifB (Nat.ble (Nat.add off (lenC w)) (lenC c)) .bad (k ⟨nx, ro, sO i (putC' c off w) bl⟩)) bl)
noncomputable def stA (H : ZH) (i ver j off : Nat) (w : V) (k : ZH → FR) : FR := hK H fun nx ro bl => ifB (Nat.ble ro i) .bad (arK i .bad (fun nl z len c => ifB (Nat.beq len ver) .bad (nthZ .bad (fun y => puE y off w fun u => k ⟨nx, ro, sA i nl z len (setC u c j) bl⟩) c j)) bl)
theorem stO_ok {q : Pr} {x : Env} {H : ZH} (hH : H.ok) {i off : Nat} {w : V} {k : ZH → FR} (hk : ∀ H', H'.ok → stS x H.heap w.cl (.v (.ptr i off)) = some (x, H'.heap) → Agr (k H') q) : Agr (stO H i off w k) q := by
  unfold stO
  rw [hK_eq, ifB_ble]
  split
  · rename_i h0
    refine obK_ok (P := fun r => Agr r q) q.bad _ hH fun c hc => ?_
    rw [ifB_ble, lenC_eq, lenC_eq]
    split
    · rename_i h1
      have h1' : off + w.cl.length ≤ c.cl.length := h1
      refine hk _ (sO_ok hH) ?_
      have h2 : H.heap.get i = some (.obj c.cl) := hc
      have h3 : ¬ i < H.heap.ro := Nat.not_lt.2 h0
      simp only [stS, h3, if_false, h2, h1', if_true, heap_obj, putC'_eq w h1']
    · exact q.bad
  · exact q.bad
theorem stA_ok {q : Pr} {x : Env} {H : ZH} (hH : H.ok) {i ver j off : Nat} {w : V} {k : ZH → FR} (hk : ∀ H', H'.ok → stS x H.heap w.cl (.v (.ap i ver j off)) = some (x, H'.heap) → Agr (k H') q) : Agr (stA H i ver j off w k) q := by
  unfold stA
  rw [hK_eq, ifB_ble]
  split
  · rename_i h0
    refine arK_ok (P := fun r => Agr r q) q.bad _ hH fun nl z c hc => ?_
    rw [ifB_beq]
    split
    · rename_i hl
      refine nthZ_ok (P := fun r => Agr r q) q.bad c j fun y hy => puE_ok fun u h1 hu => hk _ (sA_ok (by rw [setC_eq, List.length_set]) hH) ?_
      have h2 : H.heap.get i = some (.arr nl z c.cl) := hc
      have h3 : ¬ i < H.heap.ro := Nat.not_lt.2 h0
      simp only [stS, h3, if_false, h2, hl, if_true, hy, h1, heap_arr, setC_eq, hu]
    · exact q.bad
  · exact q.bad
noncomputable def oSt (sz : Nat) (a v : Opd) : Oc S S J := (fun _ κ _ e H => ceK ((opd S v).run e) .bad fun w => ifB (Nat.beq (lenC w) sz) .bad (adK (opn a) ((opd S a).run e) .bad
  (fun s off => lvR S s e .bad fun c => ifB (Nat.ble (Nat.add off sz) (lenC c)) .bad (κ ((upC S s).run e (.lv (putC' c off w))) H)) (fun _ => .bad)
  (fun i off => stO H i off w fun H' => κ e H') (fun i ver j off => stA H i ver j off w fun H' => κ e H')))
theorem oSt_ok (d : Option Nat) (sz : Nat) (a v : Opd) : OcOK d (.st sz a v) (oSt (S := S) (J := J) sz a v) := fun cl c hcl e x H κ kr q hH h hg _ => by
  unfold oSt
  refine ceK_ok (P := fun r => Agr r q) q.bad fun w hp hw => ?_
  rw [ifB_beq, lenC_eq]
  split
  · rename_i hl
    have hv := opd_val h v _ hp
    have key : ∀ x' H', stS x H.heap w.cl (x.sl a) = some (x', H') → opS c d x H.heap (.st sz a v) = some (.go .nrm x' H') := fun x' H' hs => by
      simp only [opS, hv, ← hw, hl, if_true, hs]
    refine adK_ok (P := fun r => Agr r q) (opd_dle h a) q.bad (fun t off hs => lvR_ok h q.bad fun c' hc' => ?_) (fun _ _ => q.bad)
      (fun i off hs => stO_ok hH fun H' hH' hst => hg e x H' hH' (key _ _ (by rw [hs]; exact hst)) h) (fun i ver j off hs => stA_ok hH fun H' hH' hst => hg e x H' hH' (key _ _ (by rw [hs]; exact hst)) h)
    rw [ifB_ble, lenC_eq]
    split
    · rename_i h1
      have h1' : off + w.cl.length ≤ c'.cl.length := by rw [hl]; exact h1
      refine hg _ ((t, .lv (putAt c'.cl off w.cl)) :: x) H hH (key _ _ ?_) (rel_up h t (by show Sl.lv _ = .lv (putC' c' off w).cl; rw [putC'_eq w h1']))
      rw [hs]; simp only [stS, hc', h1', if_true]
    · exact q.bad
  · exact q.bad
noncomputable def oSto (d : Option Nat) (sz : Nat) (a v : Opd) : Oc S (dS d S) J := (fun _ κ _ e H => ceK ((opd S v).run e) .bad fun w => ifB (Nat.beq (lenC w) sz) .bad (adK (opn a) ((opd S a).run e) .bad
  (fun _ _ => .bad) (fun _ => .bad)
  (fun i off => stO H i off w fun H' => κ (setD d e .un) H') (fun i ver j off => stA H i ver j off w fun H' => κ (setD d e .un) H')))
theorem oSto_ok (d : Option Nat) (sz : Nat) (a v : Opd) : OcOK d (.sto sz a v) (oSto (S := S) (J := J) d sz a v) := fun cl c hcl e x H κ kr q hH h hg _ => by
  unfold oSto
  refine ceK_ok (P := fun r => Agr r q) q.bad fun w hp hw => ?_
  rw [ifB_beq, lenC_eq]
  split
  · rename_i hl
    have hv := opd_val h v _ hp
    have key : ∀ y H', x.sl a = .v y → stS x H.heap w.cl (.v y) = some (x, H') → opS c d x H.heap (.sto sz a v) = some (.go .nrm (setDst d .un x) H') := fun y H' hy hs => by
      simp only [opS, hy, hv, ← hw, hl, if_true, hs]
    exact adK_ok (P := fun r => Agr r q) (opd_dle h a) q.bad (fun t off hs => q.bad) (fun _ _ => q.bad)
      (fun i off hs => stO_ok hH fun H' hH' hst => hg _ _ H' hH' (key _ _ hs hst) (rel_setD h d rfl)) (fun i ver j off hs => stA_ok hH fun H' hH' hst => hg _ _ H' hH' (key _ _ hs hst) (rel_setD h d rfl))
  · exact q.bad

noncomputable def oSt1 (a v : Opd) : Oc S S J := (fun cl κ kr e H => onK ((opd S v).run e) (oSt 1 a v cl κ kr e H) (adK (opn a) ((opd S a).run e) .bad
  (fun s off => lvR S s e .bad fun c => setK ((opd S v).run e) .bad c off fun c' => κ ((upC S s).run e (.lv c')) H) (fun _ => .bad)
  (fun i off => @ZH.rec (fun _ => FR) (fun nx ro bl => @Bool.rec (fun _ => FR) .bad (obK i .bad (fun c => setK ((opd S v).run e) .bad c off fun c' => κ e ⟨nx, ro, sO i c' bl⟩) bl) (Nat.ble ro i)) H)
  (fun i ver j off => hK H fun nx ro bl => @Bool.rec (fun _ => FR) .bad (arK i .bad (fun nl z len c => ifB (Nat.beq len ver) .bad (nthZ .bad (fun y => agK y
      (onK y .bad (@Nat.rec (fun _ => FR) (setK ((opd S v).run e) .bad c j fun c' => κ e ⟨nx, ro, sA i nl z len c' bl⟩) (fun _ _ => .bad) off))
      (fun cy => setK ((opd S v).run e) .bad cy off fun cy' => setK (.ag cy') .bad c j fun c' => κ e ⟨nx, ro, sA i nl z len c' bl⟩)) c j)) bl) (Nat.ble ro i))))
theorem putElem_agg {cs : List AV} {off : Nat} {v : AV} (h : off < cs.length) : putElem (.agg cs) off [v] = .agg (cs.set off v) := by
  unfold putElem
  by_cases hh : (AV.agg cs).cells.length = [v].length ∧ off = 0
  · rw [if_pos hh]
    obtain ⟨h1, rfl⟩ := hh
    have h1' : cs.length = 1 := h1
    match cs, h1' with
    | [z], _ => rfl
  · rw [if_neg hh, set_putAt h]; rfl
theorem oSt1_ok (d : Option Nat) (a v : Opd) : OcOK d (.st 1 a v) (oSt1 (S := S) (J := J) a v) := fun cl c hcl e x H κ kr q hH h hg hpn => by
  unfold oSt1
  refine onK_ok (P := fun r => Agr r q) (oSt_ok d 1 a v cl c hcl e x H κ kr q hH h hg hpn) fun hp h1 => ?_
  have hv := opd_val h v _ hp
  have hc1 := one_cells h1
  generalize (opd S v).run e = vv at *
  have key : ∀ x' H', stS x H.heap [vv.av] (x.sl a) = some (x', H') → opS c d x H.heap (.st 1 a v) = some (.go .nrm x' H') := fun x' H' hs => by
    simp only [opS, hv, hc1, List.length_singleton, if_true, hs]
  refine adK_ok (P := fun r => Agr r q) (opd_dle h a) q.bad (fun t off hs => lvR_ok h q.bad fun c' hc' => setK_ok _ q.bad c' off _ fun w hl hw => ?_) (fun _ _ => q.bad) (fun i off hs => ?_) (fun i ver j off hs => ?_)
  · refine hg _ ((t, .lv (putAt c'.cl off [vv.av])) :: x) H hH (key _ _ ?_) (rel_up h t (by show Sl.lv _ = .lv w.cl; rw [hw, set_putAt hl]))
    have hl' : off + [vv.av].length ≤ c'.cl.length := hl
    rw [hs]; simp only [stS, hc', hl', if_true]
  · show Agr (@Bool.rec (fun _ => FR) .bad (obK i .bad (fun c => setK vv .bad c off fun c' => κ e ⟨H.next, H.ro, sO i c' H.bl⟩) H.bl) (Nat.ble H.ro i)) q
    cases hb : Nat.ble H.ro i with
    | false => exact q.bad
    | true =>
      have h3 : ¬ i < H.heap.ro := Nat.not_lt.2 (Nat.le_of_ble_eq_true hb)
      refine obK_ok (P := fun r => Agr r q) q.bad _ hH fun c' hc' => setK_ok _ q.bad c' off _ fun w hl hw => hg _ x _ (sO_ok hH) (key _ _ ?_) h
      have h2 : H.heap.get i = some (.obj c'.cl) := hc'
      have hl' : off + [vv.av].length ≤ c'.cl.length := hl
      rw [hs]; simp only [stS, h3, if_false, h2, hl', if_true, heap_obj, hw, set_putAt hl]
  · rw [hK_eq]
    cases hb : Nat.ble H.ro i with
    | false => exact q.bad
    | true =>
      have h3 : ¬ i < H.heap.ro := Nat.not_lt.2 (Nat.le_of_ble_eq_true hb)
      refine arK_ok (P := fun r => Agr r q) q.bad _ hH fun nl z c' hc' => ?_
      have h2 : H.heap.get i = some (.arr nl z c'.cl) := hc'
      rw [ifB_beq]
      split
      · rename_i hlen
        refine nthZ_ok (P := fun r => Agr r q) q.bad c' j fun y hy => ?_
        have fin : ∀ (u w : V), u.av = putElem y.av off [vv.av] → off + 1 ≤ y.av.cells.length → w.cl = c'.cl.set j u.av → Agr (κ e ⟨H.next, H.ro, sA i nl z c'.cl.length w H.bl⟩) q := fun u w hu ho hw => by
          refine hg _ x _ (sA_ok (by rw [hw, List.length_set]) hH) (key _ _ ?_) h
          have ho' : off + [vv.av].length ≤ y.av.cells.length := ho
          rw [hs]; simp only [stS, h3, if_false, h2, hlen, if_true, hy, ho', heap_arr, hw, hu]
        have plain : Agr (onK y .bad (@Nat.rec (fun _ => FR) (setK vv .bad c' j fun c2 => κ e ⟨H.next, H.ro, sA i nl z c'.cl.length c2 H.bl⟩) (fun _ _ => .bad) off)) q := by
          refine onK_ok (P := fun r => Agr r q) q.bad fun _ hy1 => ?_
          cases off with
          | succ o => exact q.bad
          | zero =>
            refine setK_ok _ q.bad c' j _ fun w hl hw => fin vv w ?_ (by rw [one_cells hy1]; exact Nat.le_refl _) hw
            simp only [putElem, one_cells hy1, List.length_singleton, and_self, if_true]
            split
            · rename_i l hl2; rw [hl2] at hy1; cases hy1
            · rfl
        cases y with
        | ag cy =>
          refine setK_ok _ q.bad cy off _ fun cy' hl1 hcy' => setK_ok _ q.bad c' j _ fun w hl hw => fin (.ag cy') w ?_ hl1 hw
          show AV.agg cy'.cl = putElem (.agg cy.cl) off [vv.av]
          rw [hcy', putElem_agg hl1]
        | _ => exact plain
      · exact q.bad

/-! ### append and its like -/
noncomputable def elZ (H : ZH) (sz : Nat) (v : V) (k : V → FR) : FR := slcK' v (sK v .bad fun l n => ifB (Nat.beq sz 1) .bad (k (.run 2 l (up8 l n) .nil))) (fun _ c => ifB (allC sz c) .bad (k c)) (k .nil)
  fun id ver lo len => arK id .bad (fun _ z l c => ifB (Nat.beq z sz) .bad (ifB (Nat.beq l ver) .bad (ifB (Nat.ble (Nat.add lo len) ver) .bad (k (takeC (dropC c lo) len))))) H.bl
theorem elZ_ok {q : Pr} {H : ZH} (hH : H.ok) {sz : Nat} {v : V} {r : Option AV} (hv : v.val r) {k : V → FR} (hk : ∀ a ys, r = some a → elemsOf H.heap sz a = some ys.cl → Agr (k ys) q) : Agr (elZ H sz v k) q := by
  refine slcK'_ok (P := fun r => Agr r q) hv (sK_ok (P := fun r => Agr r q) hv q.bad fun l n hs => ?_) (fun nl c hc => ifB_ok (P := fun r => Agr r q) q.bad fun ha => hk _ c hc ?_) (fun hc => hk _ .nil hc rfl) (fun id ver lo len hc => arK_ok (P := fun r => Agr r q) q.bad _ hH fun nl z c hz => ?_)
  · rw [ifB_beq]
    split
    · rename_i h1
      refine hk _ _ hs ?_
      simp only [elemsOf, h1, if_true, V.cl, List.append_nil, up8_eq]
    · exact q.bad
  · simp only [elemsOf, allC_ok sz c ha, if_true]
  · rw [ifB_beq, ifB_beq, ifB_ble]
    by_cases h1 : z = sz
    · by_cases h2 : c.cl.length = ver
      · by_cases h3 : Nat.add lo len ≤ ver
        · rw [if_pos h1, if_pos h2, if_pos h3]
          refine hk _ _ hc ?_
          have h4 : H.heap.get id = some (.arr nl z c.cl) := hz
          have h3' : lo + len ≤ ver := h3
          simp only [elemsOf, h4, h1, h2, h3', and_self, if_true, takeC_eq, dropC_eq]
        · rw [if_pos h1, if_pos h2, if_neg h3]; exact q.bad
      · rw [if_pos h1, if_neg h2]; exact q.bad
    · rw [if_neg h1]; exact q.bad
noncomputable def apZ (H : ZH) (sz : Nat) (u ys : V) (ny : Nat) (k : V → ZH → FR) : FR := slcK' u .bad
  (fun nl c => @Bool.rec (fun _ => FR) .bad (nilF (ifB (Nat.ble ny 1073741824) .bad (nwA H (Nat.beq ny 0) sz ny ys fun i H' => k (.ms i ny 0 ny) H')) c) nl)
  (@Nat.rec (fun _ => FR) (k .c0 H) (fun _ _ => ifB (Nat.ble ny 1073741824) .bad (nwA H false sz ny ys fun i H' => k (.ms i ny 0 ny) H')) ny)
  (fun id ver lo len => hK H fun nx ro bl => ifB (Nat.ble ro id) .bad (arK id .bad (fun n z l c => ifB (Nat.beq z sz) .bad (ifB (Nat.beq l ver) .bad (ifB (Nat.ble (Nat.add l ny) 1073741824) .bad
    (@Bool.rec (fun _ => FR)
      (ifB (Nat.ble (Nat.add (Nat.add lo len) ny) ver) .bad (k (.ms id ver lo (Nat.add len ny)) ⟨nx, ro, sA id n z l (appC (appC (dropC c (Nat.add (Nat.add lo len) ny)) ys) (takeC c (Nat.add lo len))) bl⟩))
      (k (.ms id (Nat.add ver ny) 0 (Nat.add len ny)) ⟨nx, ro, sA id (ifB (Nat.beq ny 0) false n) z (Nat.add l ny) (appC ys c) bl⟩)
      (ifB (Nat.beq lo 0) false (Nat.beq len ver)))))) bl))
theorem apZ_ok {q : Pr} {H : ZH} (hH : H.ok) {sz : Nat} {u ys : V} {r : Option AV} (hu : u.val r) {x : AV} (hys : elemsOf H.heap sz x = some ys.cl) {k : V → ZH → FR}
    (hk : ∀ b w H', H'.ok → r = some b → appS H.heap sz b x = some (w.av, H'.heap) → w.pv = some w.av → Agr (k w H') q) : Agr (apZ H sz u ys ys.cl.length k) q := by
  refine slcK'_ok (P := fun r => Agr r q) hu q.bad (fun nl c hc => ?_) (fun hc => ?_) (fun id ver lo len hc => ?_)
  · cases nl with
    | false => exact q.bad
    | true =>
      refine nilF_ok fun he => ?_
      rw [he] at hc
      rw [ifB_ble, nwA_eq]
      split
      · rename_i h1
        refine hk _ (.ms H.next ys.cl.length 0 ys.cl.length) _ (sA_ok rfl hH) hc ?_ rfl
        have h1' : ys.cl.length ≤ mostLen := h1
        simp only [appS, hys, h1', if_true, heap_new_arr, beq_dec]
        have : decide (ys.cl.length = 0) = ys.cl.isEmpty := by cases ys.cl <;> simp
        rw [this]; rfl
      · exact q.bad
  · have e : ∀ k1 k2 : FR, (ys.cl.length = 0 → Agr k1 q) → (ys.cl.length ≠ 0 → Agr k2 q) → Agr (@Nat.rec (fun _ => FR) k1 (fun _ _ => k2) ys.cl.length) q := fun k1 k2 h1 h2 => by
      cases hn : ys.cl.length with
      | zero => exact h1 hn
      | succ n => exact h2 (by omega)
    refine e _ _ (fun h0 => hk _ .c0 H hH hc ?_ rfl) (fun h0 => ?_)
    · have h1 : ys.cl = [] := List.eq_nil_of_length_eq_zero h0
      rw [h1] at hys
      simp only [appS, hys, List.length_nil, Nat.zero_le, if_true, List.isEmpty_nil]; rfl
    · rw [ifB_ble, nwA_eq]
      split
      · rename_i h1
        refine hk _ (.ms H.next ys.cl.length 0 ys.cl.length) _ (sA_ok rfl hH) hc ?_ rfl
        have h1' : ys.cl.length ≤ mostLen := h1
        have h2 : ys.cl.isEmpty = false := by cases hy : ys.cl <;> simp [hy] at h0 ⊢
        simp only [appS, hys, h1', if_true, h2, Bool.false_eq_true, if_false, heap_new_arr]; rfl
      · exact q.bad
  · rw [hK_eq, ifB_ble]
    split
    · rename_i h0
      have h0' : ¬ id < H.heap.ro := Nat.not_lt.2 h0
      refine arK_ok (P := fun r => Agr r q) q.bad _ hH fun n z c hz => ?_
      rw [ifB_beq, ifB_beq, ifB_ble]
      have h4 : H.heap.get id = some (.arr n z c.cl) := hz
      by_cases h1 : z = sz
      · by_cases h2 : c.cl.length = ver
        · by_cases h3 : Nat.add c.cl.length ys.cl.length ≤ 1073741824
          · rw [if_pos h1, if_pos h2, if_pos h3]
            have h3' : c.cl.length + ys.cl.length ≤ mostLen := h3
            cases hb : ifB (Nat.beq lo 0) false (Nat.beq len ver) with
            | false =>
              have hb' : ¬ (lo = 0 ∧ len = ver) := fun hh => by
                rw [ifB_beq, if_pos hh.1, hh.2, beq_dec] at hb; simp at hb
              show Agr (ifB (Nat.ble (Nat.add (Nat.add lo len) ys.cl.length) ver) .bad _) q
              rw [ifB_ble]
              split
              · rename_i h5
                have h5' : lo + len + ys.cl.length ≤ ver := h5
                refine hk _ (.ms id ver lo (Nat.add len ys.cl.length)) _ (sA_ok ?_ hH) hc ?_ rfl
                · rw [appC_eq, appC_eq, takeC_eq, dropC_eq]
                  simp only [List.length_append, List.length_take, List.length_drop]
                  show _ = min (lo + len) c.cl.length + (ys.cl.length + (c.cl.length - (lo + len + ys.cl.length)))
                  omega
                · simp only [appS, hys, h0', if_false, h4, h1, h2, true_and]
                  rw [← h2, if_pos h3', h2, if_neg hb', if_pos h5', heap_arr, appC_eq, appC_eq, takeC_eq, dropC_eq, List.append_assoc]; rfl
              · exact q.bad
            | true =>
              have hb' : lo = 0 ∧ len = ver := by
                rw [ifB_beq] at hb
                split at hb
                · rename_i hlo; exact ⟨hlo, Nat.eq_of_beq_eq_true hb⟩
                · cases hb
              refine hk _ (.ms id (Nat.add ver ys.cl.length) 0 (Nat.add len ys.cl.length)) _ (sA_ok ?_ hH) hc ?_ rfl
              · rw [appC_eq, List.length_append]; rfl
              · simp only [appS, hys, h0', if_false, h4, h1, h2, true_and]
                rw [← h2, if_pos h3', h2, if_pos hb', heap_arr, appC_eq]
                have : ifB (Nat.beq ys.cl.length 0) false n = (n && ys.cl.isEmpty) := by
                  rw [ifB_beq]
                  cases hy : ys.cl <;> simp
                rw [this]; rfl
          · rw [if_pos h1, if_pos h2, if_neg h3]; exact q.bad
        · rw [if_pos h1, if_neg h2]; exact q.bad
      · rw [if_neg h1]; exact q.bad
    · exact q.bad
noncomputable def oApp (d : Option Nat) (sz : Nat) (b v : Opd) : Oc S (dS d S) J := (fun _ κ _ e H => elZ H sz ((opd S v).run e) fun ys => apZ H sz ((opd S b).run e) ys (lenC ys) fun w H' => κ (setD d e w) H')
theorem oApp_ok (d : Option Nat) (sz : Nat) (b v : Opd) : OcOK d (.app sz b v) (oApp (S := S) (J := J) d sz b v) := fun cl c hcl e x H κ kr q hH h hg _ => by
  unfold oApp
  refine elZ_ok hH (opd_val h v) fun a ys ha hys => ?_
  rw [lenC_eq]
  refine apZ_ok hH (opd_val h b) hys fun u w H' hH' hu hr hp => hg _ (setDst d (.v w.av) x) H' hH' ?_ (rel_setD h d (pv_den hp))
  simp only [opS, hu, ha, hr]
noncomputable def oApz (d : Option Nat) (sz : Nat) (z : AV) (b n : Opd) : Oc S (dS d S) J := (fun _ κ _ e H => slcK' ((opd S b).run e) .bad (fun nl c => @Bool.rec (fun _ => FR) .bad (nilF (iK ((opd S n).run e) .bad fun m =>
  ifB (Nat.ble 9223372036854775809 m) .bad (ifB (Nat.ble (Nat.sub m 9223372036854775808) 1073741824) .bad (ifB (Nat.beq z.cells.length sz) .bad
    (nwA H false sz (Nat.sub m 9223372036854775808) (repC (Nat.sub m 9223372036854775808) (ofAV z)) fun i H' => κ (setD d e (.ms i (Nat.sub m 9223372036854775808) 0 (Nat.sub m 9223372036854775808))) H')))) c) nl) .bad fun _ _ _ _ => .bad)
theorem oApz_ok (d : Option Nat) (sz : Nat) (z : AV) (b n : Opd) : OcOK d (.apz sz z b n) (oApz (S := S) (J := J) d sz z b n) := fun cl c hcl e x H κ kr q hH h hg _ => by
  unfold oApz
  refine slcK'_ok (P := fun r => Agr r q) (opd_val h b) q.bad (fun nl c' hc => ?_) (fun _ => q.bad) (fun _ _ _ _ _ => q.bad)
  cases nl with
  | false => exact q.bad
  | true =>
    refine nilF_ok fun he => ?_
    rw [he] at hc
    refine iK_ok (P := fun r => Agr r q) (opd_val h n) q.bad fun m hm => ?_
    rw [ifB_ble, ifB_ble, ifB_beq]
    split
    · rename_i h1
      split
      · rename_i h2
        split
        · rename_i h3
          rw [nwA_eq]
          obtain ⟨u, rfl⟩ := Nat.exists_eq_add_of_le h1
          have e1 : Nat.sub (9223372036854775809 + u) 9223372036854775808 = u + 1 := by show 9223372036854775809 + u - 9223372036854775808 = _; omega
          rw [e1] at h2 ⊢
          have e2 : (((9223372036854775809 + u : Nat) : Int) - 9223372036854775808) = ((u + 1 : Nat) : Int) := by omega
          rw [e2] at hm
          refine hg _ (setDst d (.v (.ms H.next (u + 1) 0 (u + 1))) x) _ (sA_ok (by rw [repC_eq, List.length_replicate]) hH) ?_ (rel_setD h d rfl)
          have h2' : u + 1 ≤ 1073741824 := h2
          simp only [opS, hc, hm]
          rw [if_pos ⟨by omega, by simp only [mostLen]; omega, h3⟩, heap_new_arr, repC_eq, (ofAV_pv z).2, Int.toNat_natCast]; rfl
        · exact q.bad
      · exact q.bad
    · exact q.bad
noncomputable def oMks (d : Option Nat) (sz : Nat) (z : AV) (n : Opd) : Oc S (dS d S) J := (fun _ κ _ e H => nnZ ((opd S n).run e) .bad fun m => ifB (Nat.ble m 1073741824) .bad (ifB (Nat.beq z.cells.length sz) .bad
    (nwA H false sz m (repC m (ofAV z)) fun i H' => κ (setD d e (.ms i m 0 m)) H')))
theorem oMks_ok (d : Option Nat) (sz : Nat) (z : AV) (n : Opd) : OcOK d (.mks sz z n) (oMks (S := S) (J := J) d sz z n) := fun cl c hcl e x H κ kr q hH h hg _ => by
  unfold oMks
  refine nnZ_ok (opd_val h n) q.bad fun k m hm => ?_
  rw [ifB_ble, ifB_beq]
  split
  · rename_i h2
    split
    · rename_i h3
      rw [nwA_eq]
      refine hg _ (setDst d (.v (.ms H.next m 0 m)) x) _ (sA_ok (by rw [repC_eq, List.length_replicate]) hH) ?_ (rel_setD h d rfl)
      have h2' : m ≤ 1073741824 := h2
      simp only [opS, hm]
      rw [if_pos ⟨by omega, by simp only [mostLen]; omega, h3⟩, heap_new_arr, repC_eq, (ofAV_pv z).2, Int.toNat_natCast]; rfl
    · exact q.bad
  · exact q.bad
noncomputable def oMkm (d : Option Nat) (z : AV) (n : Nat) (ps : List (Nat × Opd)) : Oc S (dS d S) J := (fun _ κ _ e H => (mkC S z.cells.length n ps).run e (repC n (ofAV z)) fun c => nwA H false z.cells.length (lenC c) c fun i H' => κ (setD d e (.ms i (lenC c) 0 (lenC c))) H')
theorem oMkm_ok (d : Option Nat) (z : AV) (n : Nat) (ps : List (Nat × Opd)) : OcOK d (.mkm z n ps) (oMkm (S := S) (J := J) d z n ps) := fun cl c hcl e x H κ kr q hH h hg _ => by
  unfold oMkm
  have hc : (repC n (ofAV z)).cl = List.replicate n z := by rw [repC_eq, (ofAV_pv z).2]
  refine mkC_ok h ps (fun y hy => ?_) (by rw [hc, List.length_replicate]) fun w vs hvs hw => ?_
  · rw [hc] at hy; rw [List.eq_of_mem_replicate hy]
  · rw [hc] at hw
    rw [nwA_eq, lenC_eq]
    refine hg _ (setDst d (.v (.ms H.next w.cl.length 0 w.cl.length)) x) _ (sA_ok rfl hH) ?_ (rel_setD h d rfl)
    simp only [opS, hvs, hw, heap_new_arr]; rfl
noncomputable def oCpy (d : Option Nat) (sz : Nat) (a b : Opd) : Oc S (dS d S) J := (fun _ κ _ e H => slcK' ((opd S a).run e) .bad (fun _ _ => .bad) .bad fun id ver lo len => hK H fun nx ro bl => ifB (Nat.ble ro id) .bad (elZ H sz ((opd S b).run e) fun ys => arK id .bad (fun n z l c =>
  ifB (Nat.beq z sz) .bad (ifB (Nat.beq l ver) .bad (ifB (Nat.ble (Nat.add lo len) ver) .bad
    (κ (setD d e (.i (Nat.add (zMin len (lenC ys)) 9223372036854775808))) ⟨nx, ro, sA id n z l (appC (appC (dropC c (Nat.add lo (zMin len (lenC ys)))) (takeC ys (zMin len (lenC ys)))) (takeC c lo)) bl⟩)))) bl))
theorem oCpy_ok (d : Option Nat) (sz : Nat) (a b : Opd) : OcOK d (.cpy sz a b) (oCpy (S := S) (J := J) d sz a b) := fun cl c hcl e x H κ kr q hH h hg _ => by
  unfold oCpy
  refine slcK'_ok (P := fun r => Agr r q) (opd_val h a) q.bad (fun _ _ _ => q.bad) (fun _ => q.bad) (fun id ver lo len hc => ?_)
  rw [hK_eq, ifB_ble]
  split
  · rename_i h0
    have h0' : ¬ id < H.heap.ro := Nat.not_lt.2 h0
    refine elZ_ok hH (opd_val h b) fun y ys hy hys => arK_ok (P := fun r => Agr r q) q.bad _ hH fun n z c' hz => ?_
    have h4 : H.heap.get id = some (.arr n z c'.cl) := hz
    rw [ifB_beq, ifB_beq, ifB_ble, zMin_eq, lenC_eq]
    by_cases h1 : z = sz
    · by_cases h2 : c'.cl.length = ver
      · by_cases h3 : Nat.add lo len ≤ ver
        · rw [if_pos h1, if_pos h2, if_pos h3]
          have h3' : lo + len ≤ ver := h3
          refine hg _ (setDst d (.v (i64 (min len ys.cl.length : Nat))) x) _ (sA_ok ?_ hH) ?_ (rel_setD h d ?_)
          · rw [appC_eq, appC_eq, takeC_eq, takeC_eq, dropC_eq]
            simp only [List.length_append, List.length_take, List.length_drop]
            show _ = min lo c'.cl.length + (min (min len ys.cl.length) ys.cl.length + (c'.cl.length - (lo + min len ys.cl.length)))
            omega
          · simp only [opS, hc, hy, h0', if_false, hys, h4, h1, h2, h3', and_self, if_true]
            rw [heap_arr, appC_eq, appC_eq, takeC_eq, takeC_eq, dropC_eq, List.append_assoc]; rfl
          · show Sl.v _ = Sl.v (V.av _); rw [toI]
        · rw [if_pos h1, if_pos h2, if_neg h3]; exact q.bad
      · rw [if_pos h1, if_neg h2]; exact q.bad
    · rw [if_neg h1]; exact q.bad
  · exact q.bad
noncomputable def oClr (d : Option Nat) (sz : Nat) (z : AV) (a : Opd) : Oc S (dS d S) J := (fun _ κ _ e H => slcK' ((opd S a).run e) .bad (fun _ _ => .bad) .bad fun id ver lo len => hK H fun nx ro bl => ifB (Nat.ble ro id) .bad (arK id .bad (fun n w l c =>
  ifB (Nat.beq w sz) .bad (ifB (Nat.beq z.cells.length sz) .bad (ifB (Nat.beq l ver) .bad (ifB (Nat.ble (Nat.add lo len) ver) .bad
    (κ (setD d e (.tu .nil)) ⟨nx, ro, sA id n w l (appC (appC (dropC c (Nat.add lo len)) (repC len (ofAV z))) (takeC c lo)) bl⟩))))) bl))
theorem oClr_ok (d : Option Nat) (sz : Nat) (z : AV) (a : Opd) : OcOK d (.clr sz z a) (oClr (S := S) (J := J) d sz z a) := fun cl c hcl e x H κ kr q hH h hg _ => by
  unfold oClr
  refine slcK'_ok (P := fun r => Agr r q) (opd_val h a) q.bad (fun _ _ _ => q.bad) (fun _ => q.bad) (fun id ver lo len hc => ?_)
  rw [hK_eq, ifB_ble]
  split
  · rename_i h0
    have h0' : ¬ id < H.heap.ro := Nat.not_lt.2 h0
    refine arK_ok (P := fun r => Agr r q) q.bad _ hH fun n w c' hz => ?_
    have h4 : H.heap.get id = some (.arr n w c'.cl) := hz
    rw [ifB_beq, ifB_beq, ifB_beq, ifB_ble]
    by_cases h1 : w = sz
    · by_cases h5 : z.cells.length = sz
      · by_cases h2 : c'.cl.length = ver
        · by_cases h3 : Nat.add lo len ≤ ver
          · rw [if_pos h1, if_pos h5, if_pos h2, if_pos h3]
            have h3' : lo + len ≤ ver := h3
            refine hg _ (setDst d (.v (.tup [])) x) _ (sA_ok ?_ hH) ?_ (rel_setD h d rfl)
            · rw [appC_eq, appC_eq, takeC_eq, repC_eq, dropC_eq]
              simp only [List.length_append, List.length_take, List.length_drop, List.length_replicate]
              show _ = min lo c'.cl.length + (len + (c'.cl.length - (lo + len)))
              omega
            · simp only [opS, hc, h0', if_false, h4, h1, h5, h2, h3', and_self, if_true]
              rw [heap_arr, appC_eq, appC_eq, takeC_eq, repC_eq, dropC_eq, List.append_assoc, (ofAV_pv z).2]; rfl
          · rw [if_pos h1, if_pos h5, if_pos h2, if_neg h3]; exact q.bad
        · rw [if_pos h1, if_pos h5, if_neg h2]; exact q.bad
      · rw [if_pos h1, if_neg h5]; exact q.bad
    · rw [if_neg h1]; exact q.bad
  · exact q.bad
noncomputable def oThaw (sz s : Nat) : Oc S (s :: S) J := (fun _ κ _ e H => slcK' ((acc S s).run e) .bad (fun nl c => @Bool.rec (fun _ => FR) .bad (nilF (nwA H true sz 0 .nil fun i H' => κ (E.cons s (.ms i 0 0 0) e) H') c) nl) .bad fun _ _ _ _ => .bad)
theorem acc_val {e : E S} {x : Env} (h : Rel S e x) (s : Nat) : ((acc S s).run e).val (x.av (.t s)) := opd_val h (.t s)
theorem oThaw_ok (d : Option Nat) (sz s : Nat) : OcOK d (.thaw sz s) (oThaw (S := S) (J := J) sz s) := fun cl c hcl e x H κ kr q hH h hg _ => by
  unfold oThaw
  have hd := get_den h s
  revert hd
  show _ → Agr (slcK' ((acc S s).run e) .bad _ .bad _) q
  generalize (acc S s).run e = v
  intro hd
  cases v <;> try exact q.bad
  rename_i nl c'
  cases nl with
  | false => exact q.bad
  | true =>
    refine nilF_ok fun he => ?_
    rw [nwA_eq]
    have hd' : x.get s = .v (.list true []) := by have h1 : x.get s = .v (.list true c'.cl) := hd; rw [he] at h1; exact h1
    refine hg _ ((s, .v (.ms H.next 0 0 0)) :: x) _ (sA_ok rfl hH) ?_ (rel_cons h s rfl)
    simp only [opS, hd', heap_new_arr]; rfl

/-! ### arrays that become slices that are written no more -/
noncomputable def fcd (f : Fz) : Nat := @Fz.casesOn (fun _ => Nat) f 0 (fun _ => 1) (fun _ _ _ => 2) (fun _ => 3)
noncomputable def fzA (cd : Nat) (f : ZH → V → (V → ZH → FR) → FR) : V → ZH → (V → ZH → FR) → FR := clRec (fun H k => k .nil H) (fun h _ ih H k => f H h fun y H1 => ih H1 fun ys H2 => k (.one y ys) H2) (fun q l n _ ih H k => ifB (Nat.beq cd 1) .bad (ih H fun ys H2 => k (.run q l n ys) H2))
noncomputable def fzS (cd : Nat) (ih : ZH → V → (V → ZH → FR) → FR) (H : ZH) (v : V) (k : V → ZH → FR) : FR := slcK' v .bad (fun n c => k (.li n c) H) (k .c0 H)
  fun id ver lo len => hK H fun nx ro bl => ifB (Nat.ble ro id) .bad (arK id .bad (fun n _ l c => ifB (Nat.beq l ver) .bad (ifB (Nat.ble (Nat.add lo len) ver) .bad
    (@Nat.rec (fun _ => FR) (k (.li n (takeC (dropC c lo) len)) ⟨nx, ro, sN id bl⟩) (fun _ _ => fzA cd ih (takeC (dropC c lo) len) ⟨nx, ro, sN id bl⟩ fun ys H' => k (.li n ys) H') cd))) bl)
noncomputable def ptX : V → FR → FR → (Nat → Nat → FR) → FR := @V.rec (fun _ => FR → FR → (Nat → Nat → FR) → FR) (fun _ d _ _ => d) (fun _ d _ _ => d) (fun _ _ d _ _ => d) (fun _ _ d _ _ => d) (fun _ d _ _ => d) (fun _ _ _ d _ _ => d) (fun d _ _ => d) (fun _ _ _ _ d _ _ => d) (fun _ _ _ k _ => k) (fun _ k _ => k) (fun id off _ _ f => f id off) (fun _ _ _ _ d _ _ => d) (fun _ _ _ d _ _ => d) (fun d _ _ => d) (fun _ _ _ d _ _ => d) (fun d _ _ => d) (fun _ _ d _ _ => d) (fun _ _ d _ _ => d) (fun d _ _ => d) (fun _ _ _ _ d _ _ => d) (fun _ _ _ _ _ d _ _ => d) (fun d _ _ => d) (fun d _ _ => d) (fun d _ _ => d) (fun _ _ d _ _ => d) (fun _ _ d _ _ => d)
theorem ptX_ok {P : FR → Prop} {v : V} {d k : FR} {f : Nat → Nat → FR} (hd : P d) (hk : v.pv = some v.av → (∀ f H, fzV (.pt f) H v.av = some (v.av, H)) → P k) (hf : ∀ id off, v.av = .ptr id off → P (f id off)) : P (ptX v d k f) := by
  cases v
  case im y => exact hk rfl fun _ _ => by simp only [V.av, fzV]
  case np => exact hk rfl fun _ _ => by simp only [V.av, fzV]
  case pt id off => exact hf id off rfl
  all_goals exact hd
noncomputable def fzP (ih : ZH → V → (V → ZH → FR) → FR) (H : ZH) (v : V) (k : V → ZH → FR) : FR := ptX v .bad (k v H)
  fun id off => hK H fun nx ro bl => ifB (Nat.ble ro id) .bad (ifB (Nat.beq off 0) .bad (obK id .bad (fun c => ifB (Nat.ble 1 (lenC c)) .bad (ih ⟨nx, ro, sN id bl⟩ (.ag c) fun y H' => k (.im y) H')) bl))
noncomputable def fzZ : Fz → ZH → V → (V → ZH → FR) → FR := @Fz.rec (fun _ => ZH → V → (V → ZH → FR) → FR) (fun H v k => vK v .bad (k v H)) (fun f ih => fzS (fcd f) ih)
  (fun i _ _ ihf ihr H v k => agK v .bad fun c => nthZ .bad (fun y => ihf H y fun y' H1 => onK y .bad (onK y' .bad (ihr H1 (.ag (setC y' c i)) k))) c i)
  (fun _ ih => fzP ih)
def FzOK (q : Pr) (f : Fz) : Prop := ∀ (H : ZH) (v : V) (k : V → ZH → FR), H.ok → (∀ (w : V) H', H'.ok → fzV f H.heap v.av = some (w.av, H'.heap) → w.pv = some w.av → Agr (k w H') q) → Agr (fzZ f H v k) q
theorem fz_digs {f : Fz} {q : Nat} : ∀ (l n : Nat) (H : Heap) (t : List AV) (r : List AV) (H' : Heap), fzAll (fzV (.sl f)) H t = some (r, H') → fzAll (fzV (.sl f)) H (digs q l n ++ t) = some (digs q l n ++ r, H')
  | 0, _, _, _, _, _, h => h
  | l + 1, n, H, t, r, H', h => by
    have ih := fz_digs (q := q) l (n / 18446744073709551616) H t r H' h
    have e : fzV (.sl f) H (scal q (n % 18446744073709551616)) = some (scal q (n % 18446744073709551616), H) := by
      match q with
      | 0 => simp only [scal, fzV]
      | 1 => simp only [scal, fzV]
      | q + 2 => simp only [scal, fzV]
    simp only [digs, List.cons_append, fzAll, e, ih]
theorem fzA_ok {q : Pr} {f : Fz} (hf : FzOK q f) : ∀ (c : V) (H : ZH) (k : V → ZH → FR), H.ok → (∀ (ys : V) H', H'.ok → fzAll (fzV f) H.heap c.cl = some (ys.cl, H'.heap) → Agr (k ys H') q) → Agr (fzA (fcd f) (fzZ f) c H k) q := by
  intro c
  refine cl_cases (P := fun c => ∀ (H : ZH) (k : V → ZH → FR), H.ok → (∀ (ys : V) H', H'.ok → fzAll (fzV f) H.heap c.cl = some (ys.cl, H'.heap) → Agr (k ys H') q) → Agr (fzA (fcd f) (fzZ f) c H k) q) (fun h t ih H k hH hk => ?_) (fun k0 l n t ih H k hH hk => ?_) (fun v h0 h1 H k hH hk => ?_) c
  · refine hf H h _ hH fun w H1 hH1 hw hp => ih H1 _ hH1 fun ys H2 hH2 hys => hk _ H2 hH2 ?_
    simp only [V.cl, fzAll, hw, hys]
  · show Agr (ifB (Nat.beq (fcd f) 1) .bad (fzA (fcd f) (fzZ f) t H fun ys H2 => k (.run k0 l n ys) H2)) q
    rw [ifB_beq]
    split
    · rename_i h1
      refine ih H _ hH fun ys H2 hH2 hys => hk _ H2 hH2 ?_
      cases f with
      | no => cases h1
      | ag i f r => cases h1
      | pt f => cases h1
      | sl f => simp only [V.cl]; exact fz_digs l n _ _ _ _ hys
    · exact q.bad
  · have : fzA (fcd f) (fzZ f) v H k = k .nil H := congrFun (congrFun (h0 (fun (H : ZH) (k : V → ZH → FR) => k .nil H) _ _) H) k
    rw [this]
    refine hk .nil H hH ?_
    rw [h1]; rfl
theorem fzZ_ok (q : Pr) : ∀ f : Fz, FzOK q f
  | .no => fun H v k hH hk => vK_ok (P := fun r => Agr r q) q.bad fun hp => hk v H hH rfl hp
  | .sl f => fun H v k hH hk => by
    have hv : v.val v.pv := fun a ha => ha
    refine slcK'_ok (P := fun r => Agr r q) hv q.bad (fun n c hc => hk (.li n c) H hH ?_ rfl) (fun hc => hk .c0 H hH ?_ rfl) (fun id ver lo len hc => ?_)
    · rw [(V.pv_sl hc).2.1]; simp only [fzV]; rfl
    · rw [(V.pv_sl hc).2.1]; simp only [fzV]; rfl
    · rw [hK_eq, ifB_ble]
      split
      · rename_i h0
        have h0' : ¬ id < H.heap.ro := Nat.not_lt.2 h0
        refine arK_ok (P := fun r => Agr r q) q.bad _ hH fun n z c hz => ?_
        have h4 : H.heap.get id = some (.arr n z c.cl) := hz
        have hH1 : ZH.ok ⟨H.next, H.ro, sN id H.bl⟩ := sN_ok hH
        rw [ifB_beq, ifB_ble]
        by_cases h2 : c.cl.length = ver
        · by_cases h3 : Nat.add lo len ≤ ver
          · rw [if_pos h2, if_pos h3]
            have h3' : lo + len ≤ ver := h3
            have hel : (takeC (dropC c lo) len).cl = (c.cl.drop lo).take len := by rw [takeC_eq, dropC_eq]
            have deep : ∀ f', f' = f → f' ≠ .no → Agr (fzA (fcd f) (fzZ f) (takeC (dropC c lo) len) ⟨H.next, H.ro, sN id H.bl⟩ fun ys H' => k (.li n ys) H') q := fun f' hf' hn => by
              refine fzA_ok (fzZ_ok q f) _ _ _ hH1 fun ys H' hH' hys => hk (.li n ys) H' hH' ?_ rfl
              rw [(V.pv_sl hc).2.1]
              rw [hel, heap_del] at hys
              subst hf'
              simp only [fzV, h0', if_false, h4, h2, h3', and_self, if_true, hys]
              cases f' with
              | no => exact absurd rfl hn
              | _ => rfl
            cases f with
            | no =>
              refine hk (.li n (takeC (dropC c lo) len)) _ hH1 ?_ rfl
              rw [(V.pv_sl hc).2.1]
              simp only [fzV, h0', if_false, h4, h2, h3', and_self, if_true, heap_del]
              show _ = some (AV.list n (takeC (dropC c lo) len).cl, _)
              rw [hel]
            | sl f => exact deep _ rfl (fun h => by cases h)
            | ag i f r => exact deep _ rfl (fun h => by cases h)
            | pt f => exact deep _ rfl (fun h => by cases h)
          · rw [if_pos h2, if_neg h3]; exact q.bad
        · rw [if_neg h2]; exact q.bad
      · exact q.bad
  | .ag i f r => fun H v k hH hk => by
    have hv : v.val v.pv := fun a ha => ha
    refine agK_ok (P := fun r => Agr r q) hv q.bad fun c hc => nthZ_ok (P := fun r => Agr r q) q.bad c i fun y hy => fzZ_ok q f H y _ hH fun w H1 hH1 hw hp => onK_ok (P := fun r => Agr r q) q.bad fun _ h1 => onK_ok (P := fun r => Agr r q) q.bad fun _ h2 => fzZ_ok q r H1 _ _ hH1 fun w2 H2 hH2 hw2 hp2 => hk w2 H2 hH2 ?_ hp2
    rw [(V.pv_sl hc).2.1]
    simp only [V.av, setC_eq] at hw2
    simp only [fzV, hy, hw, h1, h2, Bool.and_self, if_true, hw2]
  | .pt f => fun H v k hH hk => by
    refine ptX_ok (P := fun r => Agr r q) q.bad (fun hp he => hk v H hH (he f H.heap) hp) fun id off hv => ?_
    rw [hK_eq, ifB_ble]
    split
    · rename_i h0
      have h0' : ¬ id < H.heap.ro := Nat.not_lt.2 h0
      rw [ifB_beq]
      split
      · rename_i hoff
        subst hoff
        refine obK_ok (P := fun r => Agr r q) q.bad _ hH fun c hc => ?_
        have h4 : H.heap.get id = some (.obj c.cl) := hc
        have hH1 : ZH.ok ⟨H.next, H.ro, sN id H.bl⟩ := sN_ok hH
        rw [ifB_ble, lenC_eq]
        split
        · rename_i hl
          refine fzZ_ok q f ⟨H.next, H.ro, sN id H.bl⟩ (.ag c) _ hH1 fun y H' hH' hy hpy => hk (.im y) H' hH' ?_ rfl
          rw [heap_del] at hy
          have hy' : fzV f (H.heap.put id none) (.agg c.cl) = some (y.av, H'.heap) := hy
          rw [hv]
          simp only [fzV, h0', if_false, if_true, h4]
          cases hcl : c.cl with
          | nil => rw [hcl] at hl; cases hl
          | cons c0 cs =>
            rw [hcl] at hy'
            simp only [hy', V.av]
        · exact q.bad
      · exact q.bad
    · exact q.bad
noncomputable def oFrz (f : Fz) (s : Nat) : Oc S (s :: S) J := (fun _ κ _ e H => frK ((acc S s).run e) (fun v => fzZ f H v fun y H' => κ (E.cons s y e) H') (fun c => fzZ f H (.ag c) fun y H' => agK y .bad fun ds => κ (E.cons s (.lv ds) e) H'))
where frK (v : V) (fv : V → FR) (fl : V → FR) : FR := lvK' v (vK v .bad (fv v)) fl
theorem oFrz_ok (d : Option Nat) (f : Fz) (s : Nat) : OcOK d (.frz f s) (oFrz (S := S) (J := J) f s) := fun cl c hcl e x H κ kr q hH h hg _ => by
  have hd := get_den h s
  unfold oFrz
  revert hd
  generalize (acc S s).run e = v
  intro hd
  have plain : v.pv = some v.av → Agr (fzZ f H v fun y H' => κ (E.cons s y e) H') q := fun hp => by
    have hs := (V.pv_sl hp).2.2.1 _ hd
    refine fzZ_ok q f H v _ hH fun w H' hH' hw hpw => hg _ ((s, .v w.av) :: x) H' hH' ?_ (rel_cons h s (pv_den hpw))
    simp only [opS, hs, hw]
  have vcase : Agr (vK v .bad (fzZ f H v fun y H' => κ (E.cons s y e) H')) q := vK_ok (P := fun r => Agr r q) q.bad plain
  cases v with
  | lv c' =>
    have hs : x.get s = .lv c'.cl := hd
    refine fzZ_ok q f H (.ag c') _ hH fun w H' hH' hw hpw => agK_ok (P := fun r => Agr r q) (r := w.pv) (fun a ha => ha) q.bad fun ds hds => hg _ ((s, .lv ds.cl) :: x) H' hH' ?_ (rel_cons h s rfl)
    have hw' : w.av = .agg ds.cl := (V.pv_sl hds).2.1
    rw [hw'] at hw
    have hw2 : fzV f H.heap (.agg c'.cl) = some (.agg ds.cl, H'.heap) := hw
    simp only [opS, hs, hw2]
  | _ => exact vcase

noncomputable def unV (n : Nat) : V → Bool := @V.rec (fun _ => Bool)
  (fun _ => true) (fun _ => true) (fun _ _ => true) (fun _ _ => true) (fun y => y.under n) (fun _ _ ih => ih) true (fun id _ _ _ => Nat.ble (Nat.succ id) n) (fun _ ih => ih) true (fun id _ => Nat.ble (Nat.succ id) n) (fun id _ _ _ => Nat.ble (Nat.succ id) n)
  (fun _ _ ih => ih) true (fun _ _ ih => ih) true (fun _ ih => ih) (fun _ ih => ih) true (fun _ _ ih1 ih2 => ifB ih1 false ih2) (fun _ _ _ _ ih => ih) true true true (fun _ _ => true) (fun _ _ => true)
theorem under_digs (n k : Nat) : ∀ l m, AV.underAll n (digs k l m) = true
  | 0, _ => rfl
  | l + 1, m => by
    simp only [digs, AV.underAll, under_digs n k l, Bool.and_true]
    match k with
    | 0 => rfl
    | 1 => rfl
    | k + 2 => rfl
theorem underAll_app (n : Nat) : ∀ a b : List AV, AV.underAll n (a ++ b) = (AV.underAll n a && AV.underAll n b)
  | [], b => by simp [AV.underAll]
  | x :: a, b => by simp only [List.cons_append, AV.underAll, underAll_app n a b, Bool.and_assoc]
theorem unV_ok (n : Nat) (v : V) : unV n v = true → v.av.under n = true ∧ AV.underAll n v.cl = true := by
  have lt : ∀ id : Nat, Nat.ble (Nat.succ id) n = true → decide (id < n) = true := fun id h => decide_eq_true (Nat.le_of_ble_eq_true h)
  induction v with
  | x y => intro h; exact ⟨h, rfl⟩
  | li nl c ih => intro h; exact ⟨(ih h).2, rfl⟩
  | ms id ver lo len => intro h; exact ⟨lt id h, rfl⟩
  | im y ih => intro h; exact ⟨(ih h).1, rfl⟩
  | pt id o => intro h; exact ⟨lt id h, rfl⟩
  | ap id ver i o => intro h; exact ⟨lt id h, rfl⟩
  | fn g c ih => intro h; exact ⟨(ih h).2, rfl⟩
  | fc t y ih => intro h; exact ⟨(ih h).1, rfl⟩
  | ag c ih => intro h; exact ⟨(ih h).2, rfl⟩
  | tu c ih => intro h; exact ⟨(ih h).2, rfl⟩
  | one h t ihh iht =>
    intro hb
    have hb' : ifB (unV n h) false (unV n t) = true := hb
    cases h1 : unV n h with
    | false => rw [h1] at hb'; cases hb'
    | true => rw [h1] at hb'; exact ⟨rfl, by simp only [V.cl, AV.underAll, (ihh h1).1, (iht hb').2, Bool.and_self]⟩
  | run k l m t ih => intro h; exact ⟨rfl, by simp only [V.cl, underAll_app, under_digs, (ih h).2, Bool.and_self]⟩
  | _ => intro _; exact ⟨rfl, rfl⟩

def ZH.none : ZH := ⟨0, 0, .nil⟩
noncomputable def fzLZ : List Fz → ZH → V → (V → ZH → FR) → FR := @List.rec Fz (fun _ => ZH → V → (V → ZH → FR) → FR) (fun H c k => k c H) (fun f _ ih H c k => clRec FR.bad (fun h t _ => fzZ f H h fun y H1 => ih H1 t fun ys H2 => k (.one y ys) H2) (fun _ _ _ _ _ => .bad) c)
theorem fzLZ_ok {q : Pr} : ∀ (fs : List Fz) (H : ZH) (c : V) (k : V → ZH → FR), H.ok → (∀ (ys : V) H', H'.ok → fzL fs H.heap c.cl = some (ys.cl, H'.heap) → Agr (k ys H') q) → Agr (fzLZ fs H c k) q
  | [], H, c, k, hH, hk => hk c H hH rfl
  | f :: fs, H, c, k, hH, hk => by
    cases c with
    | one h t =>
      refine fzZ_ok q f H h _ hH fun w H1 hH1 hw hp => fzLZ_ok fs H1 t _ hH1 fun ys H2 hH2 hys => hk _ H2 hH2 ?_
      simp only [V.cl, fzL, hw, hys]
    | _ => exact q.bad
noncomputable def tuX : V → FR → (V → FR) → FR := @V.rec (fun _ => FR → (V → FR) → FR) (fun _ d _ => d) (fun _ d _ => d) (fun _ _ d _ => d) (fun _ _ d _ => d) (fun _ _ _ => .bad) (fun _ _ _ d _ => d) (fun d _ => d) (fun _ _ _ _ d _ => d) (fun _ _ d _ => d) (fun d _ => d) (fun _ _ d _ => d) (fun _ _ _ _ d _ => d) (fun _ _ _ d _ => d) (fun d _ => d) (fun _ _ _ d _ => d) (fun d _ => d) (fun _ _ d _ => d) (fun c _ _ f => f c) (fun d _ => d) (fun _ _ _ _ d _ => d) (fun _ _ _ _ _ d _ => d) (fun d _ => d) (fun d _ => d) (fun d _ => d) (fun _ _ d _ => d) (fun _ _ d _ => d)
noncomputable def fzTZ (fs : List Fz) (H : ZH) (v : V) (k : V → ZH → FR) : FR := tuX v (@List.rec Fz (fun _ => FR) (vK v .bad (k v H)) (fun f _ _ => fzZ f H v k) fs) fun c => fzLZ fs H c fun ys H' => k (.tu ys) H'
theorem fzTZ_ok {q : Pr} (fs : List Fz) (H : ZH) (v : V) (k : V → ZH → FR) (hH : H.ok) (hk : ∀ (w : V) H', H'.ok → fzT fs H.heap v.av = some (w.av, H'.heap) → w.pv = some w.av → Agr (k w H') q) : Agr (fzTZ fs H v k) q := by
  have key : (∀ vs, v.av ≠ .tup vs) → Agr (@List.rec Fz (fun _ => FR) (vK v .bad (k v H)) (fun f _ _ => fzZ f H v k) fs) q := fun hne => by
    have he : ∀ H0, fzT fs H0 v.av = fzO fs H0 v.av := fun H0 => by
      cases hv : v.av <;> first | exact absurd hv (hne _) | rfl
    cases fs with
    | nil => exact vK_ok (P := fun r => Agr r q) q.bad fun hp => hk v H hH (he _) hp
    | cons f fs => exact fzZ_ok q f H v k hH fun w H' hH' hw hp => hk w H' hH' ((he _).trans hw) hp
  cases v with
  | tu c =>
    refine fzLZ_ok fs H c _ hH fun ys H' hH' hys => hk (.tu ys) H' hH' ?_ rfl
    simp only [V.av, fzT, hys, Option.map_some]
  | x y => exact q.bad
  | _ => exact key (fun vs h => by cases h)
/-! ### calls -/
noncomputable def reK (d : Option Nat) (κ : E (dS d S) → ZH → FR) (kr : KR J) (e : E S) (r : FR) : FR := @FR.rec (fun _ => FR) (fun v H' => κ (setD d e v) H') (fun v H' => kr.p v ((nrmC S J).run e) H') .bad r
theorem reK_ok {d : Option Nat} {κ : E (dS d S) → ZH → FR} {kr : KR J} {e : E S} {x : Env} (h : Rel S e x) {q : Pr} {r : FR} {cr : Option CRes} (hr : Agf r cr) {o : Option Out}
    (ho : ∀ v H', cr = some (.ret v H') → o = some (.go .nrm (setDst d (.v v) x) H')) (ho2 : ∀ v H', cr = some (.pan v H') → o = some (.pan v x H')) (hg : Go1 κ q o) (hp : Pan1 kr q o) : Agr (reK d κ kr e r) q := by
  cases r with
  | ret v H' => exact hg _ _ H' hr.2.1 (ho _ _ hr.1) (rel_setD h d (pv_den hr.2.2))
  | pan v H' => exact hp v _ x H' hr.2.1 (ho2 _ _ hr.1) hr.2.2 (rel_nrm h J)
  | bad => exact q.bad
noncomputable def oCall (d : Option Nat) (f : Nat) (args : List Opd) : Oc S (dS d S) J := (fun cl κ kr e H => (argC S args).run e fun w => reK d κ kr e (cl f w H))
theorem oCall_ok (d : Option Nat) (f : Nat) (args : List Opd) : OcOK d (.call f args) (oCall (S := S) (J := J) d f args) := fun cl c hcl e x H κ kr q hH h hg hp => by
  unfold oCall
  refine argC_ok h args fun w vs hvs hw => reK_ok h (hcl f w H hH) (fun v H' hr => ?_) (fun v H' hr => ?_) hg hp
  · rw [hw] at hr; simp only [opS, hvs, hr]
  · rw [hw] at hr; simp only [opS, hvs, hr]
noncomputable def lstC (c : V) : V := clRec V.nil (fun h t _ => .one h t) (fun k l n t _ => .run k l n t) c
theorem lstC_eq (c : V) : (lstC c).av = .undef ∧ (lstC c).cl = c.cl := by
  refine cl_cases (P := fun c => (lstC c).av = .undef ∧ (lstC c).cl = c.cl) (fun h t ih => ⟨rfl, rfl⟩) (fun k' l' n' t ih => ⟨rfl, rfl⟩) (fun v h0 h1 => ?_) c
  have : lstC v = V.nil := h0 _ _ _
  rw [this, h1]; exact ⟨rfl, rfl⟩
noncomputable def canV : V → V := @V.rec (fun _ => V)
  (fun n => .i n) (fun x => .b x) (fun k n => .u k n) (fun l n => .s l (Nat.mod n (Nat.shiftLeft 1 (Nat.mul 8 l)))) (fun v => .x v)
  (fun nl _ ih => .li nl ih) .c0 (fun a b c d => .ms a b c d) (fun _ ih => .im ih) .np (fun a b => .pt a b) (fun a b c d => .ap a b c d)
  (fun f _ ih => .fn f ih) .nf (fun t _ ih => .fc t ih) .nc (fun _ ih => .ag ih) (fun _ ih => .tu ih)
  .nil (fun _ _ ihh iht => scK ihh (.one ihh iht) fun k n => ifB (Nat.ble n 18446744073709551615) (.one ihh iht) (merR k 1 n iht)) (fun k l n _ iht => ifB (Nat.beq l 0) (merR k l (Nat.mod n (Nat.shiftLeft 1 (Nat.mul 64 l))) iht) (lstC iht))
  .wh .no .un (fun c _ => .lv c) (fun a b => .lp a b)
theorem byts_mod2 : ∀ l n : Nat, byts l (n % 2 ^ (8 * l)) = byts l n
  | 0, _ => rfl
  | l + 1, n => by
    have e : 2 ^ (8 * (l + 1)) = 256 * 2 ^ (8 * l) := by rw [Nat.mul_add, Nat.pow_add, Nat.mul_comm]
    simp only [byts]
    rw [e, Nat.mod_mul_right_mod, Nat.mod_mul_right_div_self, byts_mod2 l]
theorem digs_mod (k : Nat) : ∀ l n : Nat, digs k l (n % 2 ^ (64 * l)) = digs k l n
  | 0, _ => rfl
  | l + 1, n => by
    have e : 2 ^ (64 * (l + 1)) = 18446744073709551616 * 2 ^ (64 * l) := by rw [Nat.mul_add, Nat.pow_add, Nat.mul_comm]
    simp only [digs]
    rw [e, Nat.mod_mul_right_mod, Nat.mod_mul_right_div_self, digs_mod k l]
theorem merR_av (k l n : Nat) (c : V) : (merR k l n c).av = .undef := by
  refine cl_cases (P := fun c => (merR k l n c).av = .undef) (fun h t ih => rfl) (fun k' l' n' t ih => ?_) (fun v h0 h1 => ?_) c
  · show (ifB (Nat.beq k k') (V.run k l n (.run k' l' n' t)) (V.run k (Nat.add l l') (Nat.add (Nat.mod n (Nat.shiftLeft 1 (Nat.mul 64 l))) (Nat.shiftLeft n' (Nat.mul 64 l))) t)).av = _
    cases Nat.beq k k' <;> rfl
  · have : merR k l n v = V.run k l n .nil := h0 _ _ _
    rw [this]; rfl
theorem canV_eq : ∀ v : V, (canV v).av = v.av ∧ (canV v).cl = v.cl := by
  intro v
  induction v with
  | s l n =>
    refine ⟨?_, rfl⟩
    show AV.str (byts l (Nat.mod n (Nat.shiftLeft 1 (Nat.mul 8 l)))) = .str (byts l n)
    rw [show Nat.mod n (Nat.shiftLeft 1 (Nat.mul 8 l)) = n % 2 ^ (8 * l) by rw [show Nat.shiftLeft 1 (Nat.mul 8 l) = 2 ^ (8 * l) from Nat.one_shiftLeft _]; rfl, byts_mod2]
  | li nl c ih => exact ⟨congrArg (AV.list nl) ih.2, rfl⟩
  | im v ih => exact ⟨congrArg AV.imm ih.1, rfl⟩
  | fn f c ih => exact ⟨congrArg (AV.fn f) ih.2, rfl⟩
  | fc t v ih => exact ⟨congrArg (AV.iface t) ih.1, rfl⟩
  | ag c ih => exact ⟨congrArg AV.agg ih.2, rfl⟩
  | tu c ih => exact ⟨congrArg AV.tup ih.2, rfl⟩
  | one h t ihh iht =>
    have hav : (scK (canV h) (V.one (canV h) (canV t)) fun k n => ifB (Nat.ble n 18446744073709551615) (.one (canV h) (canV t)) (merR k 1 n (canV t))).av = .undef := by
      refine scK_ok (P := fun (c : V) => c.av = .undef) rfl fun k n _ _ => ?_
      rw [ifB_ble]
      split
      · exact merR_av _ _ _ _
      · rfl
    refine ⟨hav, ?_⟩
    show (scK (canV h) (V.one (canV h) (canV t)) fun k n => ifB (Nat.ble n 18446744073709551615) (.one (canV h) (canV t)) (merR k 1 n (canV t))).cl = h.av :: t.cl
    have e1 : (V.one (canV h) (canV t)).cl = h.av :: t.cl := by simp only [V.cl, ihh.1, iht.2]
    refine scK_ok (P := fun (c : V) => c.cl = h.av :: t.cl) e1 fun k n hv _ => ?_
    rw [ifB_ble]
    split
    · rw [merR_eq, iht.2]
      simp only [digs, List.cons_append, List.nil_append]
      rw [Nat.mod_eq_of_lt (by omega), ← hv, ihh.1]
    · exact e1
  | run k l n t iht =>
    have hc : canV (.run k l n t) = if l = 0 then lstC (canV t) else merR k l (Nat.mod n (Nat.shiftLeft 1 (Nat.mul 64 l))) (canV t) := by
      show ifB (Nat.beq l 0) (merR k l (Nat.mod n (Nat.shiftLeft 1 (Nat.mul 64 l))) (canV t)) (lstC (canV t)) = _
      rw [ifB_beq]
    rw [hc]
    have hm : Nat.mod n (Nat.shiftLeft 1 (Nat.mul 64 l)) = n % 2 ^ (64 * l) := by rw [show Nat.shiftLeft 1 (Nat.mul 64 l) = 2 ^ (64 * l) from Nat.one_shiftLeft _]; rfl
    by_cases hl : l = 0
    · subst hl
      rw [if_pos rfl]
      refine ⟨(lstC_eq _).1, ?_⟩
      rw [(lstC_eq _).2, iht.2]
      simp only [V.cl, digs, List.nil_append]
    · rw [if_neg hl]
      refine ⟨merR_av _ _ _ _, ?_⟩
      rw [merR_eq, iht.2, hm, digs_mod]; rfl
  | _ => exact ⟨rfl, rfl⟩
noncomputable def canA : V → V := clRec V.nil (fun h _ ih => .one (canV h) ih) (fun k l n t _ => .run k l n t)
theorem canA_eq (c : V) : (canA c).cl = c.cl := by
  refine cl_cases (P := fun c => (canA c).cl = c.cl) (fun h t ih => ?_) (fun k l n t _ => rfl) (fun v h0 h1 => ?_) c
  · show (V.one (canV h) (canA t)).cl = _
    simp only [V.cl, (canV_eq h).1, ih]
  · have : canA v = V.nil := h0 _ _ _
    rw [this, h1]; rfl
noncomputable def reP (fz : List Fz) (d : Option Nat) (κ : E (dS d S) → ZH → FR) (e : E S) (H : ZH) (r : FR) : FR := @FR.rec (fun _ => FR) (fun v H' => fzTZ fz H' v fun y _ => ifB (unV 0 y) .bad (κ (setD d e y) H)) (fun _ _ => .bad) .bad r
noncomputable def oCallp (d : Option Nat) (f : Nat) (fz : List Fz) (args : List Opd) : Oc S (dS d S) J := (fun cl κ _ e H => (argC S args).run e fun w => ifB (unV 0 w) .bad (reP fz d κ e H (cl f (canA w) ZH.none)))
theorem oCallp_ok (d : Option Nat) (f : Nat) (fz : List Fz) (args : List Opd) : OcOK d (.callp f fz args) (oCallp (S := S) (J := J) d f fz args) := fun cl c hcl e x H κ kr q hH h hg hp => by
  unfold oCallp
  refine argC_ok h args fun w vs hvs hw => ifB_ok (P := fun r => Agr r q) q.bad fun hu => ?_
  have hr := hcl f (canA w) ZH.none trivial
  rw [canA_eq w] at hr
  have hu2 : AV.underAll 0 vs = true := hw ▸ (unV_ok 0 w hu).2
  revert hr
  generalize cl f (canA w) ZH.none = r
  intro hr
  cases r with
  | ret v H' =>
    show Agr (fzTZ fz H' v fun y _ => ifB (unV 0 y) .bad (κ (setD d e y) H)) q
    refine fzTZ_ok fz H' v _ hr.2.1 fun y H2 hH2 hy hpy => ifB_ok (P := fun r => Agr r q) q.bad fun hu3 => hg _ (setDst d (.v y.av) x) H hH ?_ (rel_setD h d (pv_den hpy))
    have hcs : clpS c f fz vs = some y.av := by
      have h1 : c f vs heap0 = some (.ret v.av H'.heap) := by rw [← hw]; exact hr.1
      unfold clpS
      rw [if_pos hu2, h1]
      simp only [hy, (unV_ok 0 y hu3).1, if_true]
    simp only [opS, hvs, hcs]
  | pan v H' => exact q.bad
  | bad => exact q.bad
noncomputable def saK {S' : List Nat} (e : E S') (H : ZH) (c : Nat × Nat × Bool × Opd) (k : FR) : FR := adK 0 ((opd S' c.2.2.2).run e) .bad (fun _ _ => .bad)
  (fun y => vK ((acc S' c.1).run e) .bad (ldZ S' c.2.1 c.2.2.1 0 (.im y) e H fun z => ifB (AV.same z.av ((acc S' c.1).run e).av) .bad k))
  (fun i o => vK ((acc S' c.1).run e) .bad (ldZ S' c.2.1 c.2.2.1 0 (.pt i o) e H fun z => ifB (AV.same z.av ((acc S' c.1).run e).av) .bad k))
  (fun i v j o => vK ((acc S' c.1).run e) .bad (ldZ S' c.2.1 c.2.2.1 0 (.ap i v j o) e H fun z => ifB (AV.same z.av ((acc S' c.1).run e).av) .bad k))
theorem saK_ok {S' : List Nat} {e : E S'} {x : Env} (h : Rel S' e x) {H : ZH} (hH : H.ok) {c : Nat × Nat × Bool × Opd} {k : FR} {q : Pr} (hk : sameLd x H.heap c = true → Agr k q) : Agr (saK e H c k) q := by
  obtain ⟨s, sz, ag, o⟩ := c
  have key : ∀ (y : V) (a : AV), x.sl o = .v a → y.pv = some a → Agr (vK ((acc S' s).run e) .bad (ldZ S' sz ag 0 y e H fun z => ifB (AV.same z.av ((acc S' s).run e).av) .bad k)) q := fun y a ha hy => by
    refine vK_ok (P := fun r => Agr r q) q.bad fun hp => ldZ_ok (s := .v a) h hH ?_ fun z hz _ => ifB_ok (P := fun r => Agr r q) q.bad fun hs => hk ?_
    · have := (V.pv_sl hy).1
      cases y <;> first | trivial | (simp only [V.dle, V.sle, this]) | cases hy
    · have h1 := (V.pv_sl hp).2.2.1 _ (get_den h s)
      simp only [sameLd, ha, h1, hz, hs]
  have hd := opd_dle h o
  unfold saK
  simp only
  revert hd
  generalize (opd S' o).run e = v
  intro hd
  cases v with
  | im y => exact key (.im y) _ hd rfl
  | pt i o => exact key (.pt i o) _ hd rfl
  | ap i w j o => exact key (.ap i w j o) _ hd rfl
  | _ => exact q.bad
noncomputable def sasK {S' : List Nat} (e : E S') (H : ZH) (k : FR) : List (Nat × Nat × Bool × Opd) → FR := @List.rec (Nat × Nat × Bool × Opd) (fun _ => FR) k (fun c _ ih => saK e H c ih)
theorem sasK_ok {S' : List Nat} {e : E S'} {x : Env} (h : Rel S' e x) {H : ZH} (hH : H.ok) {k : FR} {q : Pr} : ∀ (cs : List (Nat × Nat × Bool × Opd)), (cs.all (sameLd x H.heap) = true → Agr k q) → Agr (sasK e H k cs) q
  | [], hk => hk rfl
  | c :: cs, hk => saK_ok h hH fun h1 => sasK_ok h hH cs fun h2 => hk (by simp only [List.all_cons, h1, h2, Bool.and_self])
noncomputable def oCallc (d : Option Nat) (f : Nat) (args : List Opd) (cs : List (Nat × Nat × Bool × Opd)) : Oc S (dS d S) J := (fun cl κ _ e H => (argC S args).run e fun w => @FR.rec (fun _ => FR) (fun v H' => sasK (setD d e v) H' (κ (setD d e v) H') cs) (fun _ _ => .bad) .bad (cl f w H))
theorem oCallc_ok (d : Option Nat) (f : Nat) (args : List Opd) (cs : List (Nat × Nat × Bool × Opd)) : OcOK d (.callc f args cs) (oCallc (S := S) (J := J) d f args cs) := fun cl c hcl e x H κ kr q hH h hg hp => by
  unfold oCallc
  refine argC_ok h args fun w vs hvs hw => ?_
  have hr := hcl f w H hH
  revert hr
  generalize cl f w H = r
  intro hr
  cases r with
  | ret v H' =>
    have hrel := rel_setD h d (pv_den hr.2.2)
    refine sasK_ok hrel hr.2.1 cs fun hall => hg _ _ H' hr.2.1 ?_ hrel
    have h1 := hr.1
    rw [hw] at h1
    simp only [opS, hvs, h1, hall, if_true]
  | pan v H' => exact q.bad
  | bad => exact q.bad
noncomputable def oCallv (d : Option Nat) (f : Opd) (args : List Opd) : Oc S (dS d S) J := (fun cl κ kr e H => fnK' ((opd S f).run e) .bad fun g cap => (argC S args).run e fun w => reK d κ kr e (cl g (appC cap w) H))
theorem oCallv_ok (d : Option Nat) (f : Opd) (args : List Opd) : OcOK d (.callv f args) (oCallv (S := S) (J := J) d f args) := fun cl c hcl e x H κ kr q hH h hg hp => by
  unfold oCallv
  refine fnK'_ok (P := fun r => Agr r q) (opd_val h f) q.bad fun g cap hf => argC_ok h args fun w vs hvs hw => reK_ok h (hcl g (appC cap w) H hH) (fun v H' hr => ?_) (fun v H' hr => ?_) hg hp
  · rw [appC_eq, hw] at hr; simp only [opS, hf, hvs, hr]
  · rw [appC_eq, hw] at hr; simp only [opS, hf, hvs, hr]
noncomputable def oPan (v : Opd) : Oc S S J := (fun _ _ kr e H => fcK ((opd S v).run e) .bad (fun t y => kr.p (.fc t y) ((nrmC S J).run e) H) .bad)
theorem oPan_ok (d : Option Nat) (v : Opd) : OcOK d (.pan v) (oPan (S := S) (J := J) v) := fun cl c hcl e x H κ kr q hH h hg hp => by
  unfold oPan
  refine fcK_ok (P := fun r => Agr r q) (opd_val h v) q.bad (fun t y hy => hp (.fc t y) _ x H hH ?_ rfl (rel_nrm h J)) (fun _ => q.bad)
  simp only [opS, hy]; rfl
noncomputable def oBad (S S' J : List Nat) : Oc S S' J := (fun _ _ _ _ _ => .bad)
theorem oBad_ok (S S' J : List Nat) (d : Option Nat) (op : AOp) : OcOK d op (oBad S S' J) := fun _ _ _ _ _ _ _ _ q _ _ _ _ => q.bad
end

def outS (i : AInstr) (S : List Nat) : List Nat := match i.op with
  | .st _ _ _ => S
  | .frz _ s => s :: S
  | .thaw _ s => s :: S
  | .pan _ => S
  | _ => dS i.dst S
section
variable {S J : List Nat}
noncomputable def oMkmp (d : Option Nat) : Oc S (dS d S) J := (fun _ κ _ e H => hK H fun nx ro bl => κ (setD d e (.x (.mp nx))) ⟨Nat.succ nx, ro, sM nx .nil bl⟩)
theorem oMkmp_ok (d : Option Nat) : OcOK d .mkmp (oMkmp (S := S) (J := J) d) := fun cl c hcl e x H κ kr q hH h hg _ => by
  unfold oMkmp
  rw [hK_eq]
  refine hg _ (setDst d (.v (.mp H.next)) x) _ (sM_ok rfl hH) ?_ (rel_setD h d rfl)
  have := heap_new_mp H .nil
  show _ = some (Out.go .nrm _ (ZH.heap ⟨H.next + 1, H.ro, sM H.next .nil H.bl⟩))
  rw [this]; rfl
noncomputable def oMpu (d : Option Nat) (n : Nat) (m k v : Opd) : Oc S (dS d S) J := (fun _ κ _ e H => mpK ((opd S m).run e) .bad fun id => koK n ((opd S k).run e) (vK ((opd S v).run e) .bad (vK ((opd S k).run e) .bad (hK H fun nx ro bl => ifB (Nat.ble ro id) .bad (mpB id .bad (fun c =>
  mfC n ((opd S k).run e) (κ (setD d e .un) ⟨nx, ro, sM id (snC (.one ((opd S k).run e) (.one ((opd S v).run e) .nil)) c) bl⟩)
    (fun j _ => κ (setD d e .un) ⟨nx, ro, sM id (setC ((opd S v).run e) (setC ((opd S k).run e) c (Nat.mul 2 j)) (Nat.succ (Nat.mul 2 j))) bl⟩) c 0 0) bl)))))
theorem oMpu_ok (d : Option Nat) (n : Nat) (m k v : Opd) : OcOK d (.mpu n m k v) (oMpu (S := S) (J := J) d n m k v) := fun cl c hcl e x H κ kr q hH h hg _ => by
  unfold oMpu
  refine mpK_ok (P := fun r => Agr r q) (opd_val h m) q.bad fun id hid => koK_ok (opd_val h k) fun y hy hko => vK_ok (P := fun r => Agr r q) q.bad fun hpv => vK_ok (P := fun r => Agr r q) q.bad fun hpk => ?_
  rw [hK_eq, ifB_ble]
  split
  · rename_i h0
    have h0' : H.heap.ro ≤ id := h0
    have hv := opd_val h v _ hpv
    have hk := opd_val h k _ hpk
    have hky : ((opd S k).run e).av = y := by rw [hk] at hy; exact Option.some.inj hy
    refine mpB_ok (P := fun r => Agr r q) q.bad _ hH fun c' he hc => (mfC_ok (x := y) (by rw [← hy]; exact opd_val h k) hko c' 0).1 fun r hr => ?_
    have hgt : H.heap.get id = some (.map (prs c'.cl)) := hc
    cases r with
    | none =>
      refine hg _ (setDst d .un x) _ (sM_ok ?_ hH) ?_ (rel_setD h d rfl)
      · rw [snC_eq]; simp only [V.cl, List.length_append, List.length_cons, List.length_nil]; omega
      · rw [heap_mp, snC_eq]
        simp only [V.cl]
        rw [prs_app _ _ _ he, hky]
        simp only [opS, hid, hy, hv, hko, h0', and_self, if_true, hgt, hr]
    | some p =>
      obtain ⟨j, z⟩ := p
      intro u hu hp
      refine hg _ (setDst d .un x) _ (sM_ok ?_ hH) ?_ (rel_setD h d rfl)
      · rw [setC_eq, setC_eq]; simpa using he
      · rw [heap_mp, setC_eq, setC_eq]
        have := prs_set c'.cl j ((opd S k).run e).av ((opd S v).run e).av
        have e1 : Nat.mul 2 j = 2 * j := rfl
        rw [e1, show Nat.succ (2 * j) = 2 * j + 1 from rfl, this, hky]
        simp only [opS, hid, hy, hv, hko, h0', and_self, if_true, hgt, hr]
  · exact q.bad
end
noncomputable def opC (S J : List Nat) (d : Option Nat) : (op : AOp) → Oc S (outS ⟨d, op, none⟩ S) J
  | .alv cs => match d with
    | some s => oAlv s cs
    | none => oBad _ _ _
  | .blv sz x => match d with
    | some s => oBlv s sz x
    | none => oBad _ _ _
  | .aob cs => oAob d cs
  | .bob sz x => oBob d sz x
  | .st sz a v => bif Nat.beq sz 1 then oSt1 a v else oSt sz a v
  | .sto sz a v => oSto d sz a v
  | .app sz b x => oApp d sz b x
  | .apz sz z b n => oApz d sz z b n
  | .mks sz z n => oMks d sz z n
  | .mkm z n ps => oMkm d z n ps
  | .cpy sz x y => oCpy d sz x y
  | .clr sz z x => oClr d sz z x
  | .mkmp => oMkmp d
  | .rmc m x y => oPv d (pRmc m x y)
  | .chk x y => oPv d (pChk x y)
  | .mpu n m k v => oMpu d n m k v
  | .mpl n z ok m k => oPv d (pMpl n z ok m k)
  | .sts sz a v => oPv d (pSts sz a v)
  | .thaw sz s => oThaw sz s
  | .frz f s => oFrz f s
  | .call f args => oCall d f args
  | .callc f args cs => oCallc d f args cs
  | .callv f args => oCallv d f args
  | .callp f fz args => oCallp d f fz args
  | .pan x => oPan x
  | .bad => oBad _ _ _
  | .mv x => oPv d (pMv x)
  | .pick c a b => oPv d (pPick c a b)
  | .bin op x y => oPv d (pBin op x y)
  | .eq neg k x y => oPv d (pEq neg k x y)
  | .un op x => oPv d (pUn op x)
  | .cvi k x => oPv d (pCvi k x)
  | .cvb x => oPv d (pCvb x)
  | .cvs x => oPv d (pCvs x)
  | .cvl x => oPv d (pCvl x)
  | .mkl z n ps => oPv d (pMkl z n ps)
  | .bld z ps => oPv d (pBld z ps)
  | .fa off sz ag a => oPv d (pFa off sz ag a)
  | .ia n sz ag a i => oPv d (pIa n sz ag a i)
  | .ix sz x i => oPv d (pIx sz x i)
  | .ld sz ag a => oPv d (pLd sz ag a)
  | .ldl sz ag s => oPv d (pLdl sz ag s)
  | .ldi sz ag a => oPv d (pLdi sz ag a)
  | .ldp sz ag a => oPv d (pLdp sz ag a)
  | .ldo sz ag a => oPv d (pLdo sz ag a)
  | .ixl sz x i => oPv d (pIxl sz x i)
  | .fld off sz ag x => oPv d (pFld off sz ag x)
  | .ixa n sz ag x i => oPv d (pIxa n sz ag x i)
  | .ixs x i => oPv d (pIxs x i)
  | .len x => oPv d (pLen x)
  | .lns x => oPv d (pLns x)
  | .cap x => oPv d (pCap x)
  | .sl sz x lo hi mx => oPv d (pSl sz x lo hi mx)
  | .ss x lo hi => oPv d (pSs x lo hi)
  | .ext i x => oPv d (pExt i x)
  | .mkif t x => oPv d (pMkif t x)
  | .tas t z ok x => oPv d (pTas t z ok x)
  | .mkfn f cap => oPv d (pMkfn f cap)
  | .nilc x => oPv d (pNilc x)
  | .mnmx mx x y => oPv d (pMnmx mx x y)
  | .bim sz x => oPv d (pBim sz x)
  | .sla n a lo hi => oPv d (pSla n a lo hi)
  | .nat k args => oPv d (pNat k args)
  | .st0 a v => oPv d (pSt0 a v)
theorem opC_ok (S J : List Nat) (d : Option Nat) (op : AOp) : OcOK d op (opC S J d op) := by
  cases op with
  | alv cs => cases d with
    | none => exact oBad_ok _ _ _ _ _
    | some s => exact oAlv_ok s cs
  | blv sz x => cases d with
    | none => exact oBad_ok _ _ _ _ _
    | some s => exact oBlv_ok s sz x
  | aob cs => exact oAob_ok d cs
  | bob sz x => exact oBob_ok d sz x
  | st sz a v =>
    show OcOK d (.st sz a v) (bif Nat.beq sz 1 then oSt1 a v else oSt sz a v)
    cases h : Nat.beq sz 1 with
    | true =>
      obtain rfl := Nat.eq_of_beq_eq_true h
      exact oSt1_ok d a v
    | false => exact oSt_ok d sz a v
  | sto sz a v => exact oSto_ok d sz a v
  | app sz b x => exact oApp_ok d sz b x
  | apz sz z b n => exact oApz_ok d sz z b n
  | mks sz z n => exact oMks_ok d sz z n
  | mkm z n ps => exact oMkm_ok d z n ps
  | cpy sz x y => exact oCpy_ok d sz x y
  | clr sz z x => exact oClr_ok d sz z x
  | mkmp => exact oMkmp_ok d
  | rmc m x y => exact oPv_ok (pRmc_ok m x y) fun _ _ _ => rfl
  | chk x y => exact oPv_ok (pChk_ok x y) fun _ _ _ => rfl
  | mpu n m k v => exact oMpu_ok d n m k v
  | mpl n z ok m k => exact oPv_ok (pMpl_ok n z ok m k) fun _ _ _ => rfl
  | sts sz a v => exact oPv_ok (pSts_ok sz a v) fun _ _ _ => rfl
  | thaw sz s => exact oThaw_ok d sz s
  | frz f s => exact oFrz_ok d f s
  | call f args => exact oCall_ok d f args
  | callc f args cs => exact oCallc_ok d f args cs
  | callv f args => exact oCallv_ok d f args
  | callp f fz args => exact oCallp_ok d f fz args
  | pan x => exact oPan_ok d x
  | bad => exact oBad_ok _ _ _ _ _
  | mv x => exact oPv_ok (pMv_ok x) fun _ _ _ => rfl
  | pick c a b => exact oPv_ok (pPick_ok c a b) fun _ _ _ => rfl
  | bin op x y => exact oPv_ok (pBin_ok op x y) fun _ _ _ => rfl
  | eq neg k x y => exact oPv_ok (pEq_ok neg k x y) fun _ _ _ => rfl
  | un op x => exact oPv_ok (pUn_ok op x) fun _ _ _ => rfl
  | cvi k x => exact oPv_ok (pCvi_ok k x) fun _ _ _ => rfl
  | cvb x => exact oPv_ok (pCvb_ok x) fun _ _ _ => rfl
  | cvs x => exact oPv_ok (pCvs_ok x) fun _ _ _ => rfl
  | cvl x => exact oPv_ok (pCvl_ok x) fun _ _ _ => rfl
  | mkl z n ps => exact oPv_ok (pMkl_ok z n ps) fun _ _ _ => rfl
  | bld z ps => exact oPv_ok (pBld_ok z ps) fun _ _ _ => rfl
  | fa off sz ag a => exact oPv_ok (pFa_ok off sz ag a) fun _ _ _ => rfl
  | ia n sz ag a i => exact oPv_ok (pIa_ok n sz ag a i) fun _ _ _ => rfl
  | ix sz x i => exact oPv_ok (pIx_ok sz x i) fun _ _ _ => rfl
  | ld sz ag a => exact oPv_ok (pLd_ok sz ag a) fun _ _ _ => rfl
  | ldl sz ag s => exact oPv_ok (pLdl_ok sz ag s) fun _ _ _ => rfl
  | ldi sz ag a => exact oPv_ok (pLdi_ok sz ag a) fun _ _ _ => rfl
  | ldp sz ag a => exact oPv_ok (pLdp_ok sz ag a) fun _ _ _ => rfl
  | ldo sz ag a => exact oPv_ok (pLdo_ok sz ag a) fun _ _ _ => rfl
  | ixl sz x i => exact oPv_ok (pIxl_ok sz x i) fun _ _ _ => rfl
  | fld off sz ag x => exact oPv_ok (pFld_ok off sz ag x) fun _ _ _ => rfl
  | ixa n sz ag x i => exact oPv_ok (pIxa_ok n sz ag x i) fun _ _ _ => rfl
  | ixs x i => exact oPv_ok (pIxs_ok x i) fun _ _ _ => rfl
  | len x => exact oPv_ok (pLen_ok x) fun _ _ _ => rfl
  | lns x => exact oPv_ok (pLns_ok x) fun _ _ _ => rfl
  | cap x => exact oPv_ok (pCap_ok x) fun _ _ _ => rfl
  | sl sz x lo hi mx => exact oPv_ok (pSl_ok sz x lo hi mx) fun _ _ _ => rfl
  | ss x lo hi => exact oPv_ok (pSs_ok x lo hi) fun _ _ _ => rfl
  | ext i x => exact oPv_ok (pExt_ok i x) fun _ _ _ => rfl
  | mkif t x => exact oPv_ok (pMkif_ok t x) fun _ _ _ => rfl
  | tas t z ok x => exact oPv_ok (pTas_ok t z ok x) fun _ _ _ => rfl
  | mkfn f cap => exact oPv_ok (pMkfn_ok f cap) fun _ _ _ => rfl
  | nilc x => exact oPv_ok (pNilc_ok x) fun _ _ _ => rfl
  | mnmx mx x y => exact oPv_ok (pMnmx_ok mx x y) fun _ _ _ => rfl
  | bim sz x => exact oPv_ok (pBim_ok sz x) fun _ _ _ => rfl
  | sla n a lo hi => exact oPv_ok (pSla_ok n a lo hi) fun _ _ _ => rfl
  | nat k args => exact oPv_ok (pNat_ok k args) fun _ _ _ => rfl
  | st0 a v => exact oPv_ok (pSt0_ok a v) fun _ _ _ => rfl

/-! ### an operation, and what goes on behind it -/
structure Os (S S' J : List Nat) where
  run : ZCaller → (E S' → ZH → FR) → KR J → E S → ZH → FR
noncomputable def pvN {S S2 J : List Nat} (d : Option Nat) (p : Pv S) (nx : Os (dS d S) S2 J) : Os S S2 J := match d, nx with
  | some s, nx => ⟨fun cl κ kr e H => p e H fun w => nx.run cl κ kr (E.cons s w e) H⟩
  | none, nx => ⟨fun cl κ kr e H => p e H fun _ => nx.run cl κ kr e H⟩
noncomputable def ocN {S S' S2 J : List Nat} (oc : Oc S S' J) (nx : Os S' S2 J) : Os S S2 J := ⟨fun cl κ kr e H => oc cl (fun e' H' => nx.run cl κ kr e' H') kr e H⟩
noncomputable def opO (S J S2 : List Nat) (d : Option Nat) : (op : AOp) → Os (outS ⟨d, op, none⟩ S) S2 J → Os S S2 J
  | .alv cs, nx => match d, nx with
    | some s, nx => ocN (oAlv s cs) nx
    | none, _ => ⟨fun _ _ _ _ _ => .bad⟩
  | .blv sz x, nx => match d, nx with
    | some s, nx => ocN (oBlv s sz x) nx
    | none, _ => ⟨fun _ _ _ _ _ => .bad⟩
  | .aob cs, nx => ocN (oAob d cs) nx
  | .bob sz x, nx => ocN (oBob d sz x) nx
  | .st sz a v, nx => bif Nat.beq sz 1 then ocN (oSt1 a v) nx else ocN (oSt sz a v) nx
  | .sto sz a v, nx => ocN (oSto d sz a v) nx
  | .app sz b x, nx => ocN (oApp d sz b x) nx
  | .apz sz z b n, nx => ocN (oApz d sz z b n) nx
  | .mks sz z n, nx => ocN (oMks d sz z n) nx
  | .mkm z n ps, nx => ocN (oMkm d z n ps) nx
  | .cpy sz x y, nx => ocN (oCpy d sz x y) nx
  | .clr sz z x, nx => ocN (oClr d sz z x) nx
  | .mkmp, nx => ocN (oMkmp d) nx
  | .rmc m x y, nx => pvN d (pRmc m x y) nx
  | .chk x y, nx => pvN d (pChk x y) nx
  | .mpu n m k v, nx => ocN (oMpu d n m k v) nx
  | .mpl n z ok m k, nx => pvN d (pMpl n z ok m k) nx
  | .sts sz a v, nx => pvN d (pSts sz a v) nx
  | .thaw sz s, nx => ocN (oThaw sz s) nx
  | .frz f s, nx => ocN (oFrz f s) nx
  | .call f args, nx => ocN (oCall d f args) nx
  | .callc f args cs, nx => ocN (oCallc d f args cs) nx
  | .callv f args, nx => ocN (oCallv d f args) nx
  | .callp f fz args, nx => ocN (oCallp d f fz args) nx
  | .pan x, nx => ocN (oPan x) nx
  | .bad, nx => ocN (oBad _ _ _) nx
  | .mv x, nx => pvN d (pMv x) nx
  | .pick c a b, nx => pvN d (pPick c a b) nx
  | .bin op x y, nx => pvN d (pBin op x y) nx
  | .eq neg k x y, nx => pvN d (pEq neg k x y) nx
  | .un op x, nx => pvN d (pUn op x) nx
  | .cvi k x, nx => pvN d (pCvi k x) nx
  | .cvb x, nx => pvN d (pCvb x) nx
  | .cvs x, nx => pvN d (pCvs x) nx
  | .cvl x, nx => pvN d (pCvl x) nx
  | .mkl z n ps, nx => pvN d (pMkl z n ps) nx
  | .bld z ps, nx => pvN d (pBld z ps) nx
  | .fa off sz ag a, nx => pvN d (pFa off sz ag a) nx
  | .ia n sz ag a i, nx => pvN d (pIa n sz ag a i) nx
  | .ix sz x i, nx => pvN d (pIx sz x i) nx
  | .ld sz ag a, nx => pvN d (pLd sz ag a) nx
  | .ldl sz ag s, nx => pvN d (pLdl sz ag s) nx
  | .ldi sz ag a, nx => pvN d (pLdi sz ag a) nx
  | .ldp sz ag a, nx => pvN d (pLdp sz ag a) nx
  | .ldo sz ag a, nx => pvN d (pLdo sz ag a) nx
  | .ixl sz x i, nx => pvN d (pIxl sz x i) nx
  | .fld off sz ag x, nx => pvN d (pFld off sz ag x) nx
  | .ixa n sz ag x i, nx => pvN d (pIxa n sz ag x i) nx
  | .ixs x i, nx => pvN d (pIxs x i) nx
  | .len x, nx => pvN d (pLen x) nx
  | .lns x, nx => pvN d (pLns x) nx
  | .cap x, nx => pvN d (pCap x) nx
  | .sl sz x lo hi mx, nx => pvN d (pSl sz x lo hi mx) nx
  | .ss x lo hi, nx => pvN d (pSs x lo hi) nx
  | .ext i x, nx => pvN d (pExt i x) nx
  | .mkif t x, nx => pvN d (pMkif t x) nx
  | .tas t z ok x, nx => pvN d (pTas t z ok x) nx
  | .mkfn f cap, nx => pvN d (pMkfn f cap) nx
  | .nilc x, nx => pvN d (pNilc x) nx
  | .mnmx mx x y, nx => pvN d (pMnmx mx x y) nx
  | .bim sz x, nx => pvN d (pBim sz x) nx
  | .sla n a lo hi, nx => pvN d (pSla n a lo hi) nx
  | .nat k args, nx => pvN d (pNat k args) nx
  | .st0 a v, nx => pvN d (pSt0 a v) nx
theorem pvN_eq {S S2 J : List Nat} (d : Option Nat) (p : Pv S) (nx : Os (dS d S) S2 J) : (pvN d p nx).run = (ocN (oPv d p) nx).run := by cases d <;> rfl
theorem opO_eq (S J S2 : List Nat) (d : Option Nat) (op : AOp) (nx : Os (outS ⟨d, op, none⟩ S) S2 J) : (opO S J S2 d op nx).run = fun cl κ kr e H => opC S J d op cl (fun e' H' => nx.run cl κ kr e' H') kr e H := by
  cases op with
  | alv cs => cases d <;> rfl
  | blv sz x => cases d <;> rfl
  | st sz a v =>
    show (bif Nat.beq sz 1 then ocN (oSt1 a v) nx else ocN (oSt sz a v) nx : Os S S2 J).run = fun cl κ kr e H => (bif Nat.beq sz 1 then oSt1 a v else oSt sz a v : Oc S S J) cl (fun e' H' => nx.run cl κ kr e' H') kr e H
    cases Nat.beq sz 1 <;> rfl
  | _ => first | rfl | exact pvN_eq d _ nx
end Ey

namespace Ey
open Go (IntKind FloatKind BinOp UnOp)

inductive An where
  | o
  | p (b : An)
  | g (x b : An) (J : List Nat)
  | h (x b : An) (J : List Nat)
  | s (a b : An) (J : List Nat)
  | c (a b : An)
  | b (a : An)
  | l (N : List Nat) (a : An)
  | d (a b : An) (N : List Nat)
  deriving Inhabited

def opsS' : List AInstr → List Nat → List Nat
  | [], S => S
  | i :: l, S => match i.guard with
    | none => opsS' l (outS ⟨i.dst, i.op, none⟩ S)
    | some _ => opsS' l (dS i.dst S)
noncomputable def opsC (J : List Nat) : (l : List AInstr) → (S : List Nat) → Os S (opsS' l S) J
  | [], _ => ⟨fun _ κ _ e H => κ e H⟩
  | ⟨d, op, none⟩ :: l, S => opO S J _ d op (opsC J l (outS ⟨d, op, none⟩ S))
  | ⟨d, op, some (s, w)⟩ :: l, S => ⟨fun cl κ kr e H => guK ((acc S s).run e) w .bad
      (opC S J d op cl (fun e' H' => (opsC J l (dS d S)).run cl κ kr ((nrmC (outS ⟨d, op, none⟩ S) (dS d S)).run e') H') kr e H)
      ((opsC J l (dS d S)).run cl κ kr (setD d e .un) H)⟩

theorem wanted_gu (x : Env) (s : Nat) (w : Bool) : wantedS x (some (s, w)) = guS (x.get s) w := by
  simp only [wantedS, guS]
  cases x.get s with
  | v y => cases y <;> rfl
  | _ => rfl
section
variable {Φ : Nat → Option AFn}
theorem opsC_ok {c : Caller} {cl : ZCaller} (hcl : AgrZ cl c) {J : List Nat} : ∀ (l : List AInstr) (S : List Nat) (e : E S) (x : Env) (H : ZH) (κ : E (opsS' l S) → ZH → FR) (kr : KR J) (q : Pr), H.ok → Rel S e x →
    Go1 κ q (opsS c l x H.heap) → Pan1 kr q (opsS c l x H.heap) → Agr ((opsC J l S).run cl κ kr e H) q
  | [], S, e, x, H, κ, kr, q, hH, h, hg, hp => hg e x H hH rfl h
  | ⟨d, op, none⟩ :: l, S, e, x, H, κ, kr, q, hH, h, hg, hp => by
    have hop := opC_ok S J d op cl c hcl e x H (fun e' H' => (opsC J l (outS ⟨d, op, none⟩ S)).run cl κ kr e' H') kr q hH h
    show Agr ((opO S J _ d op (opsC J l (outS ⟨d, op, none⟩ S))).run cl κ kr e H) q
    rw [opO_eq]
    refine hop (fun e' x' H' hH' ho hr => opsC_ok hcl l _ e' x' H' κ kr q hH' hr ?_ ?_) (fun v er x' H' hH' ho hv hr => hp v er x' H' hH' ?_ hv hr)
    · intro e2 x2 H2 hH2 ho2 hr2
      exact hg e2 x2 H2 hH2 (by simp only [opsS, wantedS, ho]; exact ho2) hr2
    · intro v er x2 H2 hH2 ho2 hv hr2
      exact hp v er x2 H2 hH2 (by simp only [opsS, wantedS, ho]; exact ho2) hv hr2
    · simp only [opsS, wantedS, ho]
  | ⟨d, op, some (s, w)⟩ :: l, S, e, x, H, κ, kr, q, hH, h, hg, hp => by
    refine guK_ok (P := fun r => Agr r q) (get_den h s) q.bad (fun hw => ?_) (fun hw => ?_)
    · have hw' : wantedS x (some (s, w)) = some true := (wanted_gu x s w).trans hw
      have hop := opC_ok S J d op cl c hcl e x H (fun e' H' => (opsC J l (dS d S)).run cl κ kr ((nrmC (outS ⟨d, op, none⟩ S) (dS d S)).run e') H') kr q hH h
      refine hop (fun e' x' H' hH' ho hr => opsC_ok hcl l _ _ x' H' κ kr q hH' (rel_nrm hr _) ?_ ?_) (fun v er x' H' hH' ho hv hr => hp v er x' H' hH' ?_ hv hr)
      · intro e2 x2 H2 hH2 ho2 hr2
        exact hg e2 x2 H2 hH2 (by simp only [opsS, hw', ho]; exact ho2) hr2
      · intro v er x2 H2 hH2 ho2 hv hr2
        exact hp v er x2 H2 hH2 (by simp only [opsS, hw', ho]; exact ho2) hv hr2
      · simp only [opsS, hw', ho]
    · have hw' : wantedS x (some (s, w)) = some false := (wanted_gu x s w).trans hw
      refine opsC_ok hcl l _ _ (setDst d .un x) H κ kr q hH (rel_setD h d rfl) ?_ ?_
      · intro e2 x2 H2 hH2 ho2 hr2
        exact hg e2 x2 H2 hH2 (by simp only [opsS, hw']; exact ho2) hr2
      · intro v er x2 H2 hH2 ho2 hv hr2
        exact hp v er x2 H2 hH2 (by simp only [opsS, hw']; exact ho2) hv hr2

/-! ### ends of blocks -/
def KX (Γ : List (Nat × List Nat)) : Type := @List.rec (Nat × List Nat) (fun _ => Type) PUnit (fun g _ T => (E g.2 → ZH → FR) × T) Γ
def KX.none : KX [] := PUnit.unit
def KX.cons {Γ : List (Nat × List Nat)} (i : Nat) {J : List Nat} (k : E J → ZH → FR) (kx : KX Γ) : KX ((i, J) :: Γ) := Prod.mk (α := E J → ZH → FR) (β := KX Γ) k kx
structure Ex' (Γ : List (Nat × List Nat)) (S : List Nat) where
  run : KX Γ → E S → ZH → FR
def exC (id : Nat) (S : List Nat) : (Γ : List (Nat × List Nat)) → Ex' Γ S
  | [] => ⟨fun _ _ _ => .bad⟩
  | (i, J) :: r => bif Nat.beq id i then ⟨fun kx e H => Prod.fst (α := E J → ZH → FR) (β := KX r) kx ((nrmC S J).run e) H⟩ else ⟨fun kx e H => (exC id S r).run (Prod.snd (α := E J → ZH → FR) (β := KX r) kx) e H⟩
def ExX {Γ : List (Nat × List Nat)} (kx : KX Γ) (q : Pr) (o : Option Out) : Prop := ∀ (id : Nat) (S : List Nat) (e : E S) (x : Env) (H : ZH), H.ok → o = some (.go (.exit id) x H.heap) → Rel S e x → Agr ((exC id S Γ).run kx e H) q
def RetX {J : List Nat} (kr : KR J) (q : Pr) (o : Option Out) : Prop := ∀ e' x' H', H'.ok → o = some (.go .ret x' H'.heap) → Rel J e' x' → Agr (kr.r e' H') q
theorem exX_cons {Γ : List (Nat × List Nat)} {kx : KX Γ} {q : Pr} {o o' : Option Out} (h : ExX kx q o) (i : Nat) {J : List Nat} {k : E J → ZH → FR}
    (hk : ∀ e' x' H', H'.ok → o' = some (.go (.exit i) x' H'.heap) → Rel J e' x' → Agr (k e' H') q) (ho : ∀ id x H, id ≠ i → o' = some (.go (.exit id) x H) → o = some (.go (.exit id) x H)) : ExX (KX.cons i k kx) q o' := by
  intro id S e x H hH ho' hr
  simp only [exC, beq_dec]
  by_cases hi : id = i
  · subst hi
    simp only [decide_true, cond_true]
    exact hk _ x H hH ho' (rel_nrm hr J)
  · simp only [hi, decide_false, cond_false]
    exact h id S e x H hH (ho id x H.heap hi ho') hr

/-! ### loops -/
def nosE : (N : List Nat) → E N
  | [] => E.none
  | s :: r => E.cons s .no (nosE r)
structure Kp (S S' : List Nat) where
  run : E S → (E S' → FR) → FR
noncomputable def kpC (S N : List Nat) : (keep : List Nat) → Kp S (keep ++ N)
  | [] => ⟨fun _ k => k (nosE N)⟩
  | s :: r => ⟨fun e k => keK ((acc S s).run e) fun v => (kpC S N r).run e fun t => k (E.cons s v t)⟩
theorem nosE_get : ∀ (N : List Nat) (s : Nat), getE N (nosE N) s = .no ∨ getE N (nosE N) s = .wh
  | [], _ => .inr rfl
  | a :: r, s => by
    simp only [getE]
    split
    · exact .inl rfl
    · exact nosE_get r s
theorem keepS_get : ∀ (l : List Nat) (e : Env) (s : Nat), (keepS l e).get s = if s ∈ l then (match e.get s with | .lp _ _ => .no | x => x) else .no
  | [], e, s => by simp [keepS, Env.get]
  | a :: l, e, s => by
    have ih := keepS_get l e s
    simp only [keepS, List.map_cons, Env.get] at ih ⊢
    by_cases h : s = a
    · subst h; simp only [if_true, List.mem_cons, true_or]; cases e.get s <;> rfl
    · simp only [h, if_false, List.mem_cons, false_or]; exact ih
theorem kpC_ok {S N : List Nat} {e : E S} {x : Env} (h : Rel S e x) {q : Pr} (keep : List Nat) {k : E (keep ++ N) → FR} (hk : ∀ e', Rel (keep ++ N) e' (keepS keep x) → Agr (k e') q) : Agr ((kpC S N keep).run e k) q := by
  have key : ∀ (l : List Nat) {k : E (l ++ N) → FR}, (∀ e', (∀ s, s ∈ l → (getE (l ++ N) e' s).den (match x.get s with | .lp _ _ => .no | y => y)) → (∀ s, s ∉ l → (getE (l ++ N) e' s = .no ∨ getE (l ++ N) e' s = .wh)) → Agr (k e') q) → Agr ((kpC S N l).run e k) q := by
    intro l
    induction l with
    | nil => exact fun hk => hk (nosE N) (fun s hs => by cases hs) (fun s _ => nosE_get N s)
    | cons a l ih =>
      intro k hk
      refine keK_ok (P := fun r => Agr r q) fun v hv => ih fun e' h1 h2 => hk _ (fun s hs => ?_) (fun s hs => ?_)
      · show (getE (a :: (l ++ N)) (E.cons a v e') s).den _
        simp only [getE]
        split
        · rename_i hsa
          subst hsa
          exact hv _ (get_den h s)
        · rename_i hsa
          exact h1 s (by simpa [hsa] using hs)
      · show getE (a :: (l ++ N)) (E.cons a v e') s = .no ∨ getE (a :: (l ++ N)) (E.cons a v e') s = .wh
        simp only [List.mem_cons, not_or] at hs
        simp only [getE, hs.1, if_false]
        exact h2 s hs.2
  refine key keep fun e' h1 h2 => hk e' fun s => ?_
  rw [keepS_get]
  by_cases hs : s ∈ keep
  · rw [if_pos hs]; exact h1 s hs
  · rw [if_neg hs]
    rcases h2 s hs with h3 | h3 <;> rw [h3]
    · rfl
    · trivial

/-! ### arguments -/
def iotN : Nat → Nat → List Nat → List Nat
  | 0, _, N => N
  | n + 1, i, N => i :: iotN n (i + 1) N
structure In (S : List Nat) where
  run : V → (E S → FR) → FR
noncomputable def inC (N : List Nat) : (n i : Nat) → In (iotN n i N)
  | 0, _ => ⟨fun w k => nxK w .bad (k (nosE N))⟩
  | n + 1, i => ⟨fun w k => unK w .bad fun h t => vK h .bad ((inC N n (i + 1)).run t fun e => k (E.cons i h e))⟩
theorem initEnv_lt : ∀ (vs : List AV) (i s : Nat), s < i → (initEnv i vs).get s = .no
  | [], _, _, _ => rfl
  | v :: r, i, s, h => by
    simp only [initEnv, Env.get]
    rw [if_neg (by omega)]
    exact initEnv_lt r (i + 1) s (by omega)
theorem initEnv_ge : ∀ (vs : List AV) (i s : Nat), i + vs.length ≤ s → (initEnv i vs).get s = .no
  | [], _, _, _ => rfl
  | v :: r, i, s, h => by
    simp only [List.length_cons] at h
    simp only [initEnv, Env.get]
    rw [if_neg (by omega)]
    exact initEnv_ge r (i + 1) s (by omega)
theorem inC_ok {q : Pr} {N : List Nat} : ∀ (n i : Nat) (w : V) {k : E (iotN n i N) → FR},
    (w.cl.length = n → ∀ e', (∀ s, i ≤ s → (getE (iotN n i N) e' s).den ((initEnv i w.cl).get s)) → (∀ s, s < i → (getE (iotN n i N) e' s = .no ∨ getE (iotN n i N) e' s = .wh)) → Agr (k e') q) → Agr ((inC N n i).run w k) q
  | 0, i, w, k, hk => nxK_ok (P := fun r => Agr r q) q.bad fun hw => hk (by rw [hw]; rfl) _ (fun s _ => by
      rw [hw]
      show (getE N (nosE N) s).den _
      rcases nosE_get N s with h | h <;> rw [h]
      · rfl
      · trivial) (fun s _ => nosE_get N s)
  | n + 1, i, w, k, hk => by
    refine unK_ok (P := fun r => Agr r q) q.bad fun h t hw => vK_ok (P := fun r => Agr r q) q.bad fun hp => inC_ok n (i + 1) t fun hl e' h1 h2 => ?_
    subst hw
    refine hk (by simp only [V.cl, List.length_cons, hl]) _ (fun s hs => ?_) (fun s hs => ?_)
    · simp only [V.cl, initEnv, Env.get, iotN, getE]
      by_cases hsi : s = i
      · rw [if_pos hsi, if_pos hsi]; exact pv_den hp
      · rw [if_neg hsi, if_neg hsi]; exact h1 s (by omega)
    · simp only [iotN, getE]
      rw [if_neg (by omega)]
      exact h2 s (by omega)
theorem inC_rel {q : Pr} {N : List Nat} (n : Nat) (w : V) {k : E (iotN n 0 N) → FR} (hk : w.cl.length = n → ∀ e', Rel (iotN n 0 N) e' (initEnv 0 w.cl) → Agr (k e') q) : Agr ((inC N n 0).run w k) q :=
  inC_ok n 0 w fun hl e' h1 _ => hk hl e' fun s => h1 s (Nat.zero_le _)

/-! ### code -/
structure Cl (S J : List Nat) (Γ : List (Nat × List Nat)) (Jr : List Nat) where
  run : ZCaller → (E J → ZH → FR) → KX Γ → KR Jr → E S → ZH → FR
noncomputable def clBad (S J : List Nat) (Γ : List (Nat × List Nat)) (Jr : List Nat) : Cl S J Γ Jr := ⟨fun _ _ _ _ _ _ => .bad⟩
noncomputable def KR.np {J : List Nat} (kr : KR J) : KR J := ⟨kr.r, fun _ _ _ => .bad⟩
noncomputable def lpZ {Sl : List Nat} (b : (E Sl → ZH → FR) → E Sl → ZH → FR) : Nat → E Sl → ZH → FR := @Nat.rec (fun _ => E Sl → ZH → FR) (fun _ _ => .bad) (fun _ ih e H => b ih e H)
noncomputable def comp (Jr : List Nat) : ACode → An → (S J : List Nat) → (Γ : List (Nat × List Nat)) → Cl S J Γ Jr
  | .skip, _, S, J, _ => ⟨fun _ κ _ _ e H => κ ((nrmC S J).run e) H⟩
  | .ops l, _, S, J, _ => ⟨fun cl κ _ kr e H => (opsC Jr l S).run cl (fun e' H' => κ ((nrmC (opsS' l S) J).run e') H') kr e H⟩
  | .dops l, _, S, J, _ => ⟨fun cl κ _ kr e H => (opsC Jr l S).run cl (fun e' H' => κ ((nrmC (opsS' l S) J).run e') H') kr.np e H⟩
  | .seq a b, an, S, J, Γ => match an with
    | .p bn => match a with
      | .ops l => ⟨fun cl κ kx kr e H => (opsC Jr l S).run cl (fun e' H' => (comp Jr b bn (opsS' l S) J Γ).run cl κ kx kr e' H') kr e H⟩
      | .dops l => ⟨fun cl κ kx kr e H => (opsC Jr l S).run cl (fun e' H' => (comp Jr b bn (opsS' l S) J Γ).run cl κ kx kr e' H') kr.np e H⟩
      | .skip => comp Jr b bn S J Γ
      | _ => clBad S J Γ Jr
    | .g xn bn J1 => match a with
      | .cond g .skip x => ⟨fun cl κ kx kr e H => bK ((opd S g).run e) .bad ((comp Jr b bn S J Γ).run cl κ kx kr e H) ((comp Jr x xn S J1 Γ).run cl (fun e' H' => (comp Jr b bn J1 J Γ).run cl κ kx kr e' H') kx kr e H)⟩
      | _ => clBad S J Γ Jr
    | .h xn bn J1 => match a with
      | .cond g x .skip => ⟨fun cl κ kx kr e H => bK ((opd S g).run e) .bad ((comp Jr x xn S J1 Γ).run cl (fun e' H' => (comp Jr b bn J1 J Γ).run cl κ kx kr e' H') kx kr e H) ((comp Jr b bn S J Γ).run cl κ kx kr e H)⟩
      | _ => clBad S J Γ Jr
    | .s an bn J1 => ⟨fun cl κ kx kr e H => (comp Jr a an S J1 Γ).run cl (fun e' H' => (comp Jr b bn J1 J Γ).run cl κ kx kr e' H') kx kr e H⟩
    | _ => clBad S J Γ Jr
  | .cond g a b, an, S, J, Γ => match an with
    | .c an bn => ⟨fun cl κ kx kr e H => bK ((opd S g).run e) .bad ((comp Jr a an S J Γ).run cl κ kx kr e H) ((comp Jr b bn S J Γ).run cl κ kx kr e H)⟩
    | _ => clBad S J Γ Jr
  | .block id a, an, S, J, Γ => match an with
    | .b an => ⟨fun cl κ kx kr e H => (comp Jr a an S J ((id, J) :: Γ)).run cl κ (KX.cons id κ kx) kr e H⟩
    | _ => clBad S J Γ Jr
  | .loop keep a, an, S, J, Γ => match an with
    | .l N an => ⟨fun cl _ kx kr e H => (kpC S N keep).run e fun e0 => lpZ (fun ih e1 H1 => (comp Jr a an (keep ++ N) keep Γ).run cl (fun e' H' => (kpC keep N keep).run e' fun e2 => ih e2 H') kx kr e1 H1) 1000000 e0 H⟩
    | _ => clBad S J Γ Jr
  | .exit id, _, S, _, Γ => ⟨fun _ _ kx _ e H => (exC id S Γ).run kx e H⟩
  | .ret, _, S, _, _ => ⟨fun _ _ _ kr e H => kr.r ((nrmC S Jr).run e) H⟩
  | .dfr s f cap rs body clo, an, S, J, Γ => match an with
    | .d an bn N => ⟨fun cl _ _ kr e H => (argC S cap).run e fun cs =>
      (fun (back : V → E Jr → ZH → FR) => (comp Jr body an (s :: S) Jr []).run cl (fun e' H' => back .nc e' H') KX.none ⟨fun e' H' => back .nc e' H', back⟩ (E.cons s (.fn f cs) e) H)
      (fun v e' H' => (inC N cap.length 0).run cs fun ec => (comp Jr clo bn (rs :: iotN cap.length 0 N) [] []).run cl (fun _ H'' => kr.r e' H'') KX.none ⟨fun _ H'' => kr.r e' H'', fun _ _ _ => .bad⟩ (E.cons rs v ec) H')⟩
    | _ => clBad S J Γ Jr

theorem exX_none {q : Pr} {o : Option Out} : ExX KX.none q o := fun _ _ _ _ _ _ _ _ => q.bad

theorem comp_ok {cl : ZCaller} (hcl : AgrZ cl (evC Φ)) (Jr : List Nat) : ∀ (c : ACode) (an : An) (S J : List Nat) (Γ : List (Nat × List Nat)) (e : E S) (x : Env) (H : ZH) (κ : E J → ZH → FR) (kx : KX Γ) (kr : KR Jr) (q : Pr), H.ok → Rel S e x →
    Go1 κ q (evX Φ c x H.heap) → ExX kx q (evX Φ c x H.heap) → RetX kr q (evX Φ c x H.heap) → Pan1 kr q (evX Φ c x H.heap) → Agr ((comp Jr c an S J Γ).run cl κ kx kr e H) q
  | .skip, _, S, J, _, e, x, H, κ, kx, kr, q, hH, h, hg, hx, hr, hp => by
    rw [evX_skip] at hg
    exact hg _ x H hH rfl (rel_nrm h J)
  | .ops l, _, S, J, _, e, x, H, κ, kx, kr, q, hH, h, hg, hx, hr, hp => by
    rw [evX_ops] at hg hp
    exact opsC_ok hcl l S e x H _ kr q hH h (fun e' x' H' hH' ho hrel => hg _ x' H' hH' ho (rel_nrm hrel J)) hp
  | .dops l, _, S, J, _, e, x, H, κ, kx, kr, q, hH, h, hg, hx, hr, hp => by
    rw [evX_dops] at hg
    exact opsC_ok hcl l S e x H _ kr.np q hH h (fun e' x' H' hH' ho hrel => hg _ x' H' hH' (by rw [ho]) (rel_nrm hrel J)) (fun _ _ _ _ _ _ _ _ => q.bad)
  | .seq a b, an, S, J, Γ, e, x, H, κ, kx, kr, q, hH, h, hg, hx, hr, hp => by
    have hs := evX_seq (Φ := Φ) a b x H.heap
    have toB : ∀ x' H', evX Φ a x H.heap = some (.go .nrm x' H') → evX Φ (.seq a b) x H.heap = evX Φ b x' H' := fun x' H' ha => by rw [hs, ha]
    have notN : ∀ o, evX Φ a x H.heap = some o → (∀ x' H', o ≠ .go .nrm x' H') → evX Φ (.seq a b) x H.heap = some o := fun o ha hn => by
      rw [hs, ha]
      rcases o with ⟨w, e', H'⟩ | ⟨v, e', H'⟩
      · cases w
        · exact absurd rfl (hn e' H')
        · rfl
        · rfl
      · rfl
    have bOK : ∀ bn S1 (e1 : E S1) x1 H1, H1.ok → Rel S1 e1 x1 → evX Φ a x H.heap = some (.go .nrm x1 H1.heap) → Agr ((comp Jr b bn S1 J Γ).run cl κ kx kr e1 H1) q := fun bn S1 e1 x1 H1 hok hrel ha => by
      have ht := toB x1 H1.heap ha
      refine comp_ok hcl Jr b bn S1 J Γ e1 x1 H1 κ kx kr q hok hrel ?_ ?_ ?_ ?_
      · rw [← ht]; exact hg
      · rw [← ht]; exact hx
      · rw [← ht]; exact hr
      · rw [← ht]; exact hp
    have exA : ∀ o, evX Φ a x H.heap = o → ExX kx q o := fun o ho id S' e' x' H' hok hoo hrel => hx id S' e' x' H' hok (notN _ (ho.trans hoo) (fun _ _ hc => by cases hc)) hrel
    have reA : ∀ o, evX Φ a x H.heap = o → RetX kr q o := fun o ho e' x' H' hok hoo hrel => hr e' x' H' hok (notN _ (ho.trans hoo) (fun _ _ hc => by cases hc)) hrel
    have paA : ∀ o, evX Φ a x H.heap = o → Pan1 kr q o := fun o ho v er x' H' hok hoo hv hrel => hp v er x' H' hok (notN _ (ho.trans hoo) (fun _ _ hc => by cases hc)) hv hrel
    cases an with
    | p bn =>
      cases a with
      | ops l => exact opsC_ok hcl l S e x H _ kr q hH h (fun e' x' H' hH' ho hrel => bOK bn _ e' x' H' hH' hrel ((evX_ops l x H.heap).trans ho)) (paA _ (evX_ops l x H.heap))
      | dops l => exact opsC_ok hcl l S e x H _ kr.np q hH h (fun e' x' H' hH' ho hrel => bOK bn _ e' x' H' hH' hrel (by rw [evX_dops, ho])) (fun _ _ _ _ _ _ _ _ => q.bad)
      | skip => exact bOK bn S e x H hH h (evX_skip x H.heap)
      | _ => exact q.bad
    | g xn bn J1 =>
      cases a with
      | cond g y z =>
        cases y with
        | skip =>
          refine bK_ok (P := fun r => Agr r q) (opd_val h g) q.bad (fun ht => bOK bn S e x H hH h (by rw [evX_cond, ht]; exact evX_skip x H.heap)) (fun ht => ?_)
          have hc : evX Φ (.cond g .skip z) x H.heap = evX Φ z x H.heap := by rw [evX_cond, ht]
          exact comp_ok hcl Jr z xn S J1 Γ e x H _ kx kr q hH h (fun e' x' H' hH' ho hrel => bOK bn J1 e' x' H' hH' hrel (hc.trans ho)) (exA _ hc) (reA _ hc) (paA _ hc)
        | _ => exact q.bad
      | _ => exact q.bad
    | h xn bn J1 =>
      cases a with
      | cond g z y =>
        cases y with
        | skip =>
          refine bK_ok (P := fun r => Agr r q) (opd_val h g) q.bad (fun ht => ?_) (fun ht => bOK bn S e x H hH h (by rw [evX_cond, ht]; exact evX_skip x H.heap))
          have hc : evX Φ (.cond g z .skip) x H.heap = evX Φ z x H.heap := by rw [evX_cond, ht]
          exact comp_ok hcl Jr z xn S J1 Γ e x H _ kx kr q hH h (fun e' x' H' hH' ho hrel => bOK bn J1 e' x' H' hH' hrel (hc.trans ho)) (exA _ hc) (reA _ hc) (paA _ hc)
        | _ => exact q.bad
      | _ => exact q.bad
    | s an bn J1 => exact comp_ok hcl Jr a an S J1 Γ e x H _ kx kr q hH h (fun e' x' H' hH' ho hrel => bOK bn J1 e' x' H' hH' hrel ho) (exA _ rfl) (reA _ rfl) (paA _ rfl)
    | _ => exact q.bad
  | .cond g a b, an, S, J, Γ, e, x, H, κ, kx, kr, q, hH, h, hg, hx, hr, hp => by
    rw [evX_cond] at hg hx hr hp
    cases an with
    | c an bn =>
      refine bK_ok (P := fun r => Agr r q) (opd_val h g) q.bad (fun ht => ?_) (fun ht => ?_)
      · rw [ht] at hg hx hr hp
        exact comp_ok hcl Jr a an S J Γ e x H κ kx kr q hH h hg hx hr hp
      · rw [ht] at hg hx hr hp
        exact comp_ok hcl Jr b bn S J Γ e x H κ kx kr q hH h hg hx hr hp
    | _ => exact q.bad
  | .block id a, an, S, J, Γ, e, x, H, κ, kx, kr, q, hH, h, hg, hx, hr, hp => by
    have hb := evX_block (Φ := Φ) id a x H.heap
    cases an with
    | b an =>
      refine comp_ok hcl Jr a an S J ((id, J) :: Γ) e x H κ (KX.cons id κ kx) kr q hH h ?_ ?_ ?_ ?_
      · exact fun e' x' H' hH' ho hrel => hg e' x' H' hH' (by rw [hb, ho]) hrel
      · refine exX_cons hx id (fun e' x' H' hH' ho hrel => hg e' x' H' hH' (by rw [hb, ho]; exact if_pos rfl) hrel) fun i x' H' hi ho => ?_
        rw [hb, ho]; exact if_neg hi
      · exact fun e' x' H' hH' ho hrel => hr e' x' H' hH' (by rw [hb, ho]) hrel
      · exact fun v er x' H' hH' ho hv hrel => hp v er x' H' hH' (by rw [hb, ho]) hv hrel
    | _ => exact q.bad
  | .loop keep a, an, S, J, Γ, e, x, H, κ, kx, kr, q, hH, h, hg, hx, hr, hp => by
    cases an with
    | l N an =>
      have key : ∀ (n : Nat) (e0 : E (keep ++ N)) (x0 : Env) (H0 : ZH), H0.ok → Rel (keep ++ N) e0 (keepS keep x0) → ExX kx q (evX Φ (.loop keep a) x0 H0.heap) → RetX kr q (evX Φ (.loop keep a) x0 H0.heap) → Pan1 kr q (evX Φ (.loop keep a) x0 H0.heap) →
          Agr (lpZ (fun ih e1 H1 => (comp Jr a an (keep ++ N) keep Γ).run cl (fun e' H' => (kpC keep N keep).run e' fun e2 => ih e2 H') kx kr e1 H1) n e0 H0) q := by
        intro n
        induction n with
        | zero => intros; exact q.bad
        | succ n ih =>
          intro e0 x0 H0 hH0 hrel hx hr hp
          have hl := evX_loop (Φ := Φ) keep a x0 H0.heap
          have notN : ∀ o, evX Φ a (keepS keep x0) H0.heap = some o → (∀ x' H', o ≠ .go .nrm x' H') → evX Φ (.loop keep a) x0 H0.heap = some o := fun o ha hn => by
            rw [hl, ha]
            rcases o with ⟨w, e', H'⟩ | ⟨v, e', H'⟩
            · cases w
              · exact absurd rfl (hn e' H')
              · rfl
              · rfl
            · rfl
          refine comp_ok hcl Jr a an (keep ++ N) keep Γ e0 (keepS keep x0) H0 _ kx kr q hH0 hrel ?_ ?_ ?_ ?_
          · intro e' x' H' hH' ho hrel'
            have ht : evX Φ (.loop keep a) x0 H0.heap = evX Φ (.loop keep a) x' H'.heap := by rw [hl, ho]
            rw [ht] at hx hr hp
            exact kpC_ok hrel' keep fun e2 hrel2 => ih e2 x' H' hH' hrel2 hx hr hp
          · exact fun id S' e' x' H' hok ho hrel => hx id S' e' x' H' hok (notN _ ho (fun _ _ hc => by cases hc)) hrel
          · exact fun e' x' H' hok ho hrel => hr e' x' H' hok (notN _ ho (fun _ _ hc => by cases hc)) hrel
          · exact fun v er x' H' hok ho hv hrel => hp v er x' H' hok (notN _ ho (fun _ _ hc => by cases hc)) hv hrel
      exact kpC_ok h keep fun e0 hrel => key 1000000 e0 x H hH hrel hx hr hp
    | _ => exact q.bad
  | .exit id, _, S, J, Γ, e, x, H, κ, kx, kr, q, hH, h, hg, hx, hr, hp => by
    rw [evX_exit] at hx
    exact hx id S e x H hH rfl h
  | .ret, _, S, J, Γ, e, x, H, κ, kx, kr, q, hH, h, hg, hx, hr, hp => by
    rw [evX_ret] at hr
    exact hr _ x H hH rfl (rel_nrm h Jr)
  | .dfr s f cap rs body clo, an, S, J, Γ, e, x, H, κ, kx, kr, q, hH, h, hg, hx, hr, hp => by
    cases an with
    | d an bn N =>
      refine argC_ok h cap fun cs vs hvs hcs => ?_
      have hd : evX Φ (.dfr s f cap rs body clo) x H.heap = dfrS (fun v H' => evX Φ clo ((rs, .v v) :: initEnv 0 vs) H') (evX Φ body ((s, .v (.fn f vs)) :: x) H.heap) := by rw [evX_dfr, hvs]
      rw [hd] at hr
      have back : ∀ (v : V) (e' : E Jr) (x' : Env) (H' : ZH), H'.ok → v.pv = some v.av → Rel Jr e' x' → dfrS (fun v H' => evX Φ clo ((rs, .v v) :: initEnv 0 vs) H') (evX Φ body ((s, .v (.fn f vs)) :: x) H.heap) = backS x' (evX Φ clo ((rs, .v v.av) :: initEnv 0 vs) H'.heap) →
          Agr ((inC N cap.length 0).run cs fun ec => (comp Jr clo bn (rs :: iotN cap.length 0 N) [] []).run cl (fun _ H'' => kr.r e' H'') KX.none ⟨fun _ H'' => kr.r e' H'', fun _ _ _ => .bad⟩ (E.cons rs v ec) H') q := fun v e' x' H' hH' hv hrel hback => by
        refine inC_rel _ cs fun hl ec hec => ?_
        rw [hback] at hr
        rw [hcs] at hec
        have done : ∀ (w : Ex) (x2 : Env) (H2 : ZH), (w = .nrm ∨ w = .ret) → H2.ok → evX Φ clo ((rs, .v v.av) :: initEnv 0 vs) H'.heap = some (.go w x2 H2.heap) → Agr (kr.r e' H2) q := fun w x2 H2 hw hH2 ho => by
          refine hr e' x' H2 hH2 ?_ hrel
          rw [ho]
          rcases hw with rfl | rfl <;> rfl
        exact comp_ok hcl Jr clo bn _ [] [] _ _ H' _ KX.none _ q hH' (rel_cons hec rs (pv_den hv)) (fun _ x2 H2 hH2 ho _ => done .nrm x2 H2 (.inl rfl) hH2 ho) exX_none (fun _ x2 H2 hH2 ho _ => done .ret x2 H2 (.inr rfl) hH2 ho) (fun _ _ _ _ _ _ _ _ => q.bad)
      refine comp_ok hcl Jr body an (s :: S) Jr [] _ ((s, .v (.fn f vs)) :: x) H _ KX.none _ q hH (rel_cons h s (by show Sl.v _ = .v (.fn f cs.cl); rw [hcs])) ?_ exX_none ?_ ?_
      · exact fun e' x' H' hH' ho hrel => back .nc e' x' H' hH' rfl hrel (by rw [ho]; rfl)
      · exact fun e' x' H' hH' ho hrel => back .nc e' x' H' hH' rfl hrel (by rw [ho]; rfl)
      · exact fun v er x' H' hH' ho hv hrel => back v er x' H' hH' hv hrel (by rw [ho]; rfl)
    | _ => exact q.bad
end
end Ey

namespace Ey
open Go (IntKind FloatKind BinOp UnOp)

/-! ### results -/
structure Rs (S : List Nat) where
  run : E S → ZH → (V → FR) → FR
noncomputable def rsC (S : List Nat) : ARes → Rs S
  | .tmp t => ⟨fun e _ k => haK ((acc S t).run e) k⟩
  | .cell s sz ag => ⟨fun e H k => ldZ S sz ag s ((acc S s).run e) e H k⟩
theorem rsC_ok {S : List Nat} {e : E S} {x : Env} (h : Rel S e x) {H : ZH} (hH : H.ok) {q : Pr} (r : ARes) {k : V → FR} (hk : ∀ w, resS x H.heap r = some w.av → w.pv = some w.av → Agr (k w) q) : Agr ((rsC S r).run e H k) q := by
  cases r with
  | tmp t =>
    refine haK_ok fun hp => hk _ ?_ hp
    have := (V.pv_sl hp).2.2.1 _ (get_den h t)
    simp only [resS, this]
  | cell s sz ag => exact ldZ_ok h hH (opd_dle h (.t s)) fun w hw hp => hk w hw hp
noncomputable def rssC (S : List Nat) : List ARes → Rs S
  | [] => ⟨fun _ _ k => k .nil⟩
  | r :: l => ⟨fun e H k => (rsC S r).run e H fun v => (rssC S l).run e H fun t => k (.one v t)⟩
theorem rssC_ok {S : List Nat} {e : E S} {x : Env} (h : Rel S e x) {H : ZH} (hH : H.ok) {q : Pr} : ∀ (l : List ARes) {k : V → FR}, (∀ w, resAll x H.heap l = some w.cl → Agr (k w) q) → Agr ((rssC S l).run e H k) q
  | [], k, hk => hk .nil rfl
  | r :: l, k, hk => rsC_ok h hH r fun v hv _ => rssC_ok h hH l fun t ht => hk _ (by simp only [resAll, hv, ht, Option.map_some, V.cl])
noncomputable def resC (S : List Nat) : List ARes → Rs S
  | [r] => rsC S r
  | l => ⟨fun e H k => (rssC S l).run e H fun w => k (.tu w)⟩
theorem resC_ok {S : List Nat} {e : E S} {x : Env} (h : Rel S e x) {H : ZH} (hH : H.ok) {q : Pr} (l : List ARes) {k : V → FR} (hk : ∀ w, resOf x H.heap l = some w.av → w.pv = some w.av → Agr (k w) q) : Agr ((resC S l).run e H k) q := by
  match l with
  | [] => exact rssC_ok h hH [] fun w hw => hk (.tu w) (by simp only [resOf, hw, Option.map_some, V.av]) rfl
  | [r] => exact rsC_ok h hH r hk
  | r :: r2 :: t => exact rssC_ok h hH (r :: r2 :: t) fun w hw => hk (.tu w) (by simp only [resOf, hw, Option.map_some, V.av]) rfl
def resSl : List ARes → List Nat
  | [] => []
  | .tmp t :: l => t :: resSl l
  | .cell s _ _ :: l => s :: resSl l

noncomputable def doZ (pure : Bool) (H : ZH) (v : V) (H' : ZH) (mk : V → ZH → FR) : FR := @Bool.rec (fun _ => FR) (hK H fun _ ro _ => hK H' fun nx _ bl => mk v ⟨nx, ro, bl⟩) (ifB (unV H.next v) .bad (mk v H)) pure
noncomputable def boZ' (pure : Bool) (H : ZH) : ZH := @Bool.rec (fun _ => ZH) H (@ZH.rec (fun _ => ZH) (fun nx _ bl => ⟨nx, nx, bl⟩) H) pure
structure Fc where
  run : ZCaller → V → ZH → FR
noncomputable def fnC (af : AFn) (an : An) (N : List Nat) : Fc := ⟨fun cl w H => (inC N af.params 0).run w fun e0 =>
  (fun (fin : E (resSl af.results) → ZH → FR) => (comp (resSl af.results) af.code an (iotN af.params 0 N) (resSl af.results) []).run cl fin KX.none ⟨fin, fun v _ H' => doZ af.pure H v H' .pan⟩ e0 (boZ' af.pure H))
  (fun e' H' => (resC (resSl af.results) af.results).run e' H' fun v => doZ af.pure H v H' .ret)⟩
section
variable {Φ : Nat → Option AFn}
theorem fnC_ok {cl : ZCaller} (hcl : AgrZ cl (evC Φ)) {f : Nat} {af : AFn} (hf : Φ f = some af) (an : An) (N : List Nat) (w : V) (H : ZH) (hH : H.ok) : Agf ((fnC af an N).run cl w H) (evC Φ f w.cl H.heap) := by
  refine inC_rel (q := Pr.of _) _ w fun hl e0 he0 => ?_
  rw [evC_eq hf hl]
  have hB : (boZ' af.pure H).heap = bodyH af H.heap := by
    simp only [boZ', bodyH]; cases af.pure <;> rfl
  have hBo : (boZ' af.pure H).ok := by simp only [boZ']; cases af.pure <;> exact hH
  rw [← hB]
  have hpan : ∀ (v : V) (x' : Env) (H' : ZH), H'.ok → v.pv = some v.av → ∀ o, o = some (.pan v.av x' H'.heap) → Agf (doZ af.pure H v H' .pan) (finS af H.heap o) := fun v x' H' hH' hv o ho => by
    subst ho
    simp only [doZ, finS]
    cases af.pure with
    | true =>
      refine ifB_ok (P := fun r => Agf r _) trivial fun hu => ?_
      have : v.av.under H.heap.next = true := (unV_ok H.next v hu).1
      exact ⟨by simp only [if_true, this], hH, hv⟩
    | false => exact ⟨rfl, hH', hv⟩
  have hfin : ∀ (wx : Ex) (e' : E (resSl af.results)) (x' : Env) (H' : ZH), (wx = .nrm ∨ wx = .ret) → H'.ok → Rel (resSl af.results) e' x' → ∀ o, o = some (.go wx x' H'.heap) → Agf ((resC (resSl af.results) af.results).run e' H' fun v => doZ af.pure H v H' .ret) (finS af H.heap o) := fun wx e' x' H' hw hH' hrel o ho => by
    refine resC_ok (q := Pr.of _) hrel hH' af.results fun v hv hp => ?_
    subst ho
    have hfi : finS af H.heap (some (.go wx x' H'.heap)) = if af.pure then (if v.av.under H.heap.next then some (.ret v.av H.heap) else none) else some (.ret v.av { H'.heap with ro := H.heap.ro }) := by
      rcases hw with rfl | rfl <;> simp only [finS, hv]
    rw [hfi]
    simp only [doZ]
    cases af.pure with
    | true =>
      refine ifB_ok (P := fun r => Agf r _) trivial fun hu => ?_
      have : v.av.under H.heap.next = true := (unV_ok H.next v hu).1
      exact ⟨by simp only [if_true, this], hH, hp⟩
    | false => exact ⟨rfl, hH', hp⟩
  exact comp_ok hcl _ af.code an _ _ [] e0 (initEnv 0 w.cl) (boZ' af.pure H) _ KX.none _ (Pr.of _) hBo he0
    (fun e' x' H' hH' ho hrel => hfin .nrm e' x' H' (.inl rfl) hH' hrel _ ho) exX_none
    (fun e' x' H' hH' ho hrel => hfin .ret e' x' H' (.inr rfl) hH' hrel _ ho) (fun v er x' H' hH' ho hv _ => hpan v x' H' hH' hv _ ho)

/-! ### a program's functions -/
inductive ZE where
  | none
  | code (af : AFn) (an : An) (N : List Nat)
  | nat (g : V → ZH → FR)
  | mem (g : V → ZH → FR → FR) (af : AFn) (an : An) (N : List Nat)
  | fp (g : ZCaller → V → ZH → FR)
noncomputable def entC : ZE → Fc
  | .none => ⟨fun _ _ _ => .bad⟩
  | .code af an N => fnC af an N
  | .nat g => ⟨fun _ w H => g w H⟩
  | .mem g af an N => ⟨fun cl w H => g w H ((fnC af an N).run cl w H)⟩
  | .fp g => ⟨g⟩
def lookZ : List ZE → Nat → ZE
  | [], _ => .none
  | a :: _, 0 => a
  | _ :: l, n + 1 => lookZ l n
def zipZ : List AFn → List (An × List Nat) → List ZE
  | a :: l, n :: m => .code a n.1 n.2 :: zipZ l m
  | _, _ => []
theorem zipZ_get : ∀ (l : List AFn) (m : List (An × List Nat)) (f : Nat), lookZ (zipZ l m) f = .none ∨ ∃ af an N, lookZ (zipZ l m) f = .code af an N ∧ l[f]? = some af
  | [], _, _ => .inl rfl
  | _ :: _, [], _ => .inl rfl
  | a :: l, n :: m, 0 => .inr ⟨a, n.1, n.2, rfl, rfl⟩
  | a :: l, n :: m, f + 1 => by
    rcases zipZ_get l m f with h | ⟨af, an, N, h1, h2⟩
    · exact .inl h
    · exact .inr ⟨af, an, N, h1, by simpa using h2⟩
def natsZ : List (Nat × ZE) → List ZE → Nat → ZE
  | [], zs, f => lookZ zs f
  | (g, e) :: l, zs, f => bif Nat.beq f g then e else natsZ l zs f
noncomputable def callZ (look : Nat → ZE) : Nat → ZCaller := @Nat.rec (fun _ => ZCaller) (fun _ _ _ => .bad) (fun _ ih f w H => (entC (look f)).run ih w H)
def ZEok (Φ : Nat → Option AFn) (f : Nat) (z : ZE) : Prop := match z with
  | .none => True
  | .code af _ _ => Φ f = some af
  | .nat g => ∀ w H, H.ok → Agf (g w H) (evC Φ f w.cl H.heap)
  | .mem g af _ _ => Φ f = some af ∧ ∀ w H x, H.ok → Agf x (evC Φ f w.cl H.heap) → Agf (g w H x) (evC Φ f w.cl H.heap)
  | .fp g => ∀ cl, AgrZ cl (evC Φ) → ∀ w H, H.ok → Agf (g cl w H) (evC Φ f w.cl H.heap)
theorem callZ_ok {look : Nat → ZE} (h : ∀ f, ZEok Φ f (look f)) : ∀ n, AgrZ (callZ look n) (evC Φ)
  | 0 => fun _ _ _ _ => trivial
  | n + 1 => fun f w H hH => by
    show Agf ((entC (look f)).run (callZ look n) w H) _
    have hf := h f
    revert hf
    generalize look f = z
    intro hf
    cases z with
    | none => trivial
    | code af an N => exact fnC_ok (callZ_ok h n) hf an N w H hH
    | nat g => exact hf w H hH
    | mem g af an N => exact hf.2 w H _ hH (fnC_ok (callZ_ok h n) hf.1 an N w H hH)
    | fp g => exact hf _ (callZ_ok h n) w H hH
theorem zip_ok {afs : List AFn} {ans : List (An × List Nat)} {f : Nat} : ZEok (fun f => afs[f]?) f (lookZ (zipZ afs ans) f) := by
  rcases zipZ_get afs ans f with h | ⟨af, an, N, h1, h2⟩
  · rw [h]; trivial
  · rw [h1]; exact h2
theorem nats_ok {zs : List ZE} {f : Nat} (hz : ZEok Φ f (lookZ zs f)) : ∀ (l : List (Nat × ZE)), (∀ g e, (g, e) ∈ l → ZEok Φ g e) → ZEok Φ f (natsZ l zs f)
  | [], _ => hz
  | (g, e) :: l, h => by
    simp only [natsZ, beq_dec]
    by_cases hfg : f = g
    · subst hfg; simp only [decide_true, cond_true]; exact h f e (List.mem_cons_self ..)
    · simp only [hfg, decide_false, cond_false]; exact nats_ok hz l fun g' e' hm => h g' e' (List.mem_cons_of_mem _ hm)

theorem runZ_ret {look : Nat → ZE} (h : ∀ f, ZEok Φ f (look f)) {n f : Nat} {w : V} {H : ZH} (hH : H.ok) {v : V} {H' : ZH} (hr : callZ look n f w H = .ret v H') : evC Φ f w.cl H.heap = some (.ret v.av H'.heap) := by
  have := callZ_ok h n f w H hH
  rw [hr] at this
  exact this.1
def truV (v : V) : Bool := match v with
  | .b x => x
  | _ => false
noncomputable def tru : FR → Bool := @FR.rec (fun _ => Bool) (fun v _ => truV v) (fun _ _ => false) false
theorem tru_ret {r : FR} (h : tru r = true) : ∃ H, r = .ret (.b true) H := by
  cases r with
  | ret v H =>
    cases v <;> first | (cases h; done) | skip
    rename_i x
    cases x
    · cases h
    · exact ⟨H, rfl⟩
  | pan v H => cases h
  | bad => cases h
end
end Ey

namespace Ey
open Go Go.RowKit Go.WideShapes Go.ChangeShapes

def nodupB : List Nat → Bool
  | [] => true
  | x :: l => !l.contains x && nodupB l

theorem nodup_inj : ∀ {l : List Nat}, nodupB l = true → ∀ (t t' i : Nat), l[t]? = some i → l[t']? = some i → t = t'
  | [], _, t, t', i, h, _ => by simp at h
  | x :: l, hn, t, t', i, h, h' => by
    simp only [nodupB, Bool.and_eq_true, Bool.not_eq_true'] at hn
    have hx : x ∉ l := by simpa using hn.1
    cases t with
    | zero =>
      simp at h; subst h
      cases t' with
      | zero => rfl
      | succ t' => simp at h'; exact absurd (List.mem_of_getElem? h') hx
    | succ t =>
      simp at h
      cases t' with
      | zero => simp at h'; subst h'; exact absurd (List.mem_of_getElem? h) hx
      | succ t' => simp at h'; rw [nodup_inj hn.2 t t' i h h']

def chkSome (C : Cx) (pf : Nat → Bool) : List FuncId → List AFn → Bool
  | [], [] => true
  | fid :: ids, [] => funOK C.P fid && chkSome C pf ids []
  | fid :: ids, af :: afs => funOK C.P fid && chkFn C pf fid af && chkSome C pf ids afs
  | [], _ :: _ => false

theorem chkSome_get {C : Cx} {pf : Nat → Bool} : ∀ {ids : List FuncId} {afs : List AFn}, chkSome C pf ids afs = true → ∀ (f : Nat) (fid : FuncId), ids[f]? = some fid → funOK C.P fid = true ∧ ∀ af, afs[f]? = some af → chkFn C pf fid af = true
  | [], _, _, f, fid, h => by simp at h
  | i :: ids, [], hc, f, fid, h => by
    simp only [chkSome, Bool.and_eq_true] at hc
    cases f with
    | zero => simp at h; subst h; exact ⟨hc.1, fun af ha => by simp at ha⟩
    | succ f => simp at h; exact ⟨(chkSome_get hc.2 f fid h).1, fun af ha => by simp at ha⟩
  | i :: ids, a :: afs, hc, f, fid, h => by
    simp only [chkSome, Bool.and_eq_true] at hc
    cases f with
    | zero =>
      simp at h
      subst h
      exact ⟨hc.1.1, fun af ha => by simp at ha; exact ha ▸ hc.1.2⟩
    | succ f =>
      simp at h
      obtain ⟨h1, h2⟩ := chkSome_get hc.2 f fid h
      exact ⟨h1, fun af ha => h2 af (by simpa using ha)⟩

theorem known_some {C : Cx} {ids : List FuncId} {afs : List AFn} (hfm : C.fm = fun f => ids[f]?) (h : chkSome C (pureF fun f => afs[f]?) ids afs = true) : Known C (fun f => afs[f]?) where
  funs := fun f fid hf => by
    rw [hfm] at hf
    have h1 := (chkSome_get h f fid hf).1
    unfold funOK at h1
    split at h1
    · rename_i fn hfn
      simp only [Bool.and_eq_true, bne_iff_ne, ne_eq] at h1
      obtain ⟨c, hc⟩ := Option.isSome_iff_exists.1 h1.1
      exact ⟨fn, c, hfn, hc, h1.2⟩
    · cases h1
  fns := fun f fid af hf ha => by
    rw [hfm] at hf
    exact (chkSome_get h f fid hf).2 af ha

def ghG (C : Cx) : Gh := ⟨C.gl, fun _ => none, fun _ _ => none⟩
def ownG (C : Cx) : Own := fun b o => match C.gl b o with
  | some _ => .imm
  | none => .free
theorem ownG_some {C : Cx} {b o : Nat} {v : Value} (h : C.gl b o = some v) : ownG C b o = .imm := by simp only [ownG, h]
theorem ownG_or (C : Cx) (b o : Nat) : ownG C b o = .free ∨ (ownG C b o = .imm ∧ ∃ v, C.gl b o = some v) := by
  simp only [ownG]
  cases h : C.gl b o with
  | none => exact .inl rfl
  | some v => exact .inr ⟨rfl, v, rfl⟩

theorem stG (C : Cx) (w : World) (hw : ∀ b o v, C.gl b o = some v → w.cell? ⟨b, o, none⟩ = some v ∧ b < w.heap.size) : St C (ghG C) (ownG C) w.heap.size heap0 w where
  imm := fun b o v h => ⟨ownG_some h, (hw b o v h).1⟩
  obj := fun _ _ h => by cases h
  arr := fun _ _ _ _ h => by cases h
  mp := fun _ _ h => by cases h
  next := fun _ _ => ⟨rfl, rfl, fun _ => rfl⟩
  ext := fun b o => by
    rcases ownG_or C b o with h | ⟨_, v, h⟩
    · exact .inl h
    · exact .inr (hw b o v h).2
  base := fun b o ⟨x, hx⟩ => by
    rcases ownG_or C b o with h | ⟨h, _⟩ <;> rw [h] at hx <;> rcases hx with hx | hx <;> cases hx
  size := Nat.le_refl _
  ro := Nat.le_refl _
  gl := fun _ _ _ h => h

theorem none_heap : ZH.none.heap = heap0 := rfl

theorem closed_calls {C : Cx} {Φ : Nat → Option AFn} (hK : Known C Φ) {f : Nat} {fid : FuncId} (hf : C.fm f = some fid) {b : Bool} {H' : Heap} (h : evC Φ f [] heap0 = some (.ret (.bool b) H')) (w : World)
    (hw : ∀ b o v, C.gl b o = some v → w.cell? ⟨b, o, none⟩ = some v ∧ b < w.heap.size) :
    Calls C.P fid #[] w fun e w' => e = .returned (.bool b) ∧ Below w.heap.size w w' := by
  refine (calls_ev hK f [] heap0 _ h fid hf (ghG C) (ownG C) w.heap.size w #[] (stG C w hw) (fun b o s h => by rcases ownG_or C b o with h' | ⟨h', _⟩ <;> rw [h'] at h <;> cases h) rfl (fun i x y hx => by simp at hx)).mono fun e w' hq => ?_
  obtain ⟨g', own', _, ⟨rv, rfl, hrv⟩, hE, _⟩ := hq
  cases hrv
  exact ⟨rfl, hE.below⟩

theorem args_calls {C : Cx} {Φ : Nat → Option AFn} (hK : Known C Φ) {f : Nat} {fid : FuncId} (hf : C.fm f = some fid) {vs : List AV} {ws : Array Value} (hl : vs.length = ws.size) (hv : ∀ (g : Gh) (i : Nat) (x : AV) (y : Value), vs[i]? = some x → ws[i]? = some y → VR C g x y)
    {b : Bool} {H' : Heap} (h : evC Φ f vs heap0 = some (.ret (.bool b) H')) (w : World)
    (hw : ∀ b o v, C.gl b o = some v → w.cell? ⟨b, o, none⟩ = some v ∧ b < w.heap.size) :
    Calls C.P fid ws w fun e w' => e = .returned (.bool b) ∧ Below w.heap.size w w' := by
  refine (calls_ev hK f vs heap0 _ h fid hf (ghG C) (ownG C) w.heap.size w ws (stG C w hw) (fun b o s h => by rcases ownG_or C b o with h' | ⟨h', _⟩ <;> rw [h'] at h <;> cases h) hl (hv _)).mono fun e w' hq => ?_
  obtain ⟨g', own', _, ⟨rv, rfl, hrv⟩, hE, _⟩ := hq
  cases hrv
  exact ⟨rfl, hE.below⟩

theorem pure_ret {Φ : Nat → Option AFn} {f : Nat} {af : AFn} (hf : Φ f = some af) (hp : af.pure = true) {vs : List AV} {H H' : Heap} {v : AV} (h : evC Φ f vs H = some (.ret v H')) : H' = H := by
  obtain ⟨n, hn⟩ := evC_iff.1 h
  cases n with
  | zero => cases hn
  | succ n =>
    simp only [callN, hf] at hn
    split at hn
    · cases hx : exec n (callN Φ n) af.code (initEnv 0 vs) (bodyH af H) with
      | none => rw [hx] at hn; cases hn
      | some o =>
        rw [hx] at hn
        rcases o with ⟨q, e, H1⟩ | ⟨w, e, H1⟩
        · cases q <;> simp only [finS, hp, if_true] at hn
          all_goals
            repeat' (split at hn)
            all_goals first | (cases hn; done) | (simp only [Option.some.injEq, CRes.ret.injEq] at hn; exact hn.2.symm)
        · simp only [finS, hp, if_true] at hn
          split at hn <;> cases hn
    · cases hn

/-! ### a closed function that answers true, run once -/
noncomputable def nilB (bl : HB) (d k : FR) : FR := @HB.rec (fun _ => FR) k (fun _ _ _ _ _ => d) bl
noncomputable def onceZ : ZE := .nat fun w H => nxK w .bad (@ZH.rec (fun _ => FR) (fun nx ro bl => ifB (Nat.beq nx 0) .bad (ifB (Nat.beq ro 0) .bad (nilB bl .bad (.ret (.b true) ZH.none)))) H)
theorem once_ok {Φ : Nat → Option AFn} {f : Nat} (h : evC Φ f [] heap0 = some (.ret (.bool true) heap0)) : ZEok Φ f onceZ := fun w H hH => by
  obtain ⟨nx, ro, bl⟩ := H
  refine nxK_ok (P := fun r => Agf r _) trivial fun hw => ?_
  subst hw
  show Agf (ifB (Nat.beq nx 0) .bad (ifB (Nat.beq ro 0) .bad (nilB bl .bad (.ret (.b true) ZH.none)))) _
  rw [ifB_beq]
  split
  · rw [ifB_beq]
    split
    · rename_i h1 h2
      subst h1; subst h2
      cases bl with
      | nil => exact ⟨h, trivial, rfl⟩
      | _ => trivial
    · trivial
  · trivial

/-! ### all of some first numbers -/
noncomputable def allN (p : Nat → Bool) : Nat → Bool := @Nat.rec (fun _ => Bool) true (fun i ih => ifB (p i) false ih)
theorem allN_ok {p : Nat → Bool} : ∀ {n : Nat}, allN p n = true → ∀ i, i < n → p i = true
  | 0, _, i, hi => by omega
  | n + 1, h, i, hi => by
    have h' : ifB (p n) false (allN p n) = true := h
    cases hn : p n with
    | false => rw [hn] at h'; cases h'
    | true =>
      rw [hn] at h'
      by_cases hin : i = n
      · rw [hin]; exact hn
      · exact allN_ok (n := n) h' i (by omega)

theorem wrap_small {n : Nat} (h : n < 9223372036854775808) : IntKind.wrap .i64 (n : Int) = n := wrap64 (by omega) (by omega)

theorem tmod_cast (a m : Nat) : ((a % m : Nat) : Int).tmod m = (a : Int).tmod m := by
  rw [Int.ofNat_tmod, ← Int.ofNat_tmod, ← Int.ofNat_tmod, Nat.mod_mod]

section
variable {H : Type} {enc : TypeId × Value → H} {P : Program}
theorem post_low {f : Func} {s : ChangeSpec} {apart fresh handsOn again : Bool} {W W' : World} {args : Array Value} {v : Value} {ds gs : List (DataW H)} {before pa pv : List MemPlace}
    (hW : DataW.Whole enc P f.params.toList s.vars apart W args.toList ds gs before)
    (hres : ∀ (b : Nat) (sp : Nat → Bool) (hd : Bool), DataW.TrodAll enc P W' b sp hd f.resultTypes.toList (v.resultList f.resultTypes.size) (s.fn H (ds ++ gs)).results [])
    (hargs : ∀ sp : Nat → Bool, (∀ p ∈ before, sp p.block = true) → DataW.TrodAll enc P W' 0 sp true f.params.toList args.toList (s.fn H (ds ++ gs)).args pa)
    (hvars : ∀ sp : Nat → Bool, (∀ p ∈ before, sp p.block = true) → DataW.TrodVars enc P W' sp s.vars (s.fn H (ds ++ gs)).vars pv)
    (hps : before = pa ++ pv) (hb : Below W.heap.size W W')
    (hok : ∀ (j : Nat) (t : TypeId) (r : Value), f.resultTypes[j]? = some t → (v.resultList f.resultTypes.size)[j]? = some r → Value.okWide P W' .any 0 t r) :
    s.post enc P f apart fresh handsOn again W args v W' := by
  have old : ∀ p ∈ before, p.block < W.heap.size := fun p hp => hW.lt p hp
  have seen : ∀ p ∈ before, (fun b => decide (b < W.heap.size)) p.block = true := fun p hp => by simpa using old p hp
  refine ⟨ds, gs, before, [], pa, pv, hW, hres _ _ _, hargs _ seen, hvars _ seen, World.keptBut_mono (fun p hp => ⟨hp, ?_⟩) (hb.frame (· ∈ before)), fun _ => ?_⟩
  · rw [hps] at hp
    exact .inr (List.mem_append.1 hp)
  · obtain ⟨_, _, _, _, _, hz, hn⟩ := hW
    refine ⟨hok, _, _, ([] ++ pa) ++ pv, ⟨[] ++ pa, pv, trodAll_append (hargs _ (fun _ _ => rfl)) (hres _ _ _), hvars _ (fun _ _ => rfl), rfl, fun b off hp => ?_, fun ha => ?_⟩, fun p hp _ => ?_⟩
    · have hin : MemPlace.cell b off ∈ before := by rw [hps]; simpa using hp
      rw [hb.frozen (old _ hin)]
      exact hz b off hin
    · have := hn ha
      rw [hps] at this
      simpa using this
    · rw [hps]
      simpa using hp
end
end Ey

namespace Ey
open Go Go.RowKit Go.ChangeShapes

theorem cell_lt {W : World} {g o : Nat} {v : Value} (h : W.cell? ⟨g, o, none⟩ = some v) : g < W.heap.size := by
  unfold World.cell? at h
  cases hb : W.heap[g]? with
  | none => simp only [hb] at h; cases h
  | some x => exact (Array.getElem?_eq_some_iff.1 hb).1

theorem gl_nil (W : World) : ∀ b o v, glf [] b o = some v → W.cell? ⟨b, o, none⟩ = some v ∧ b < W.heap.size := fun b o v h => by simp [glf] at h

theorem gl_cons {P : Program} {W : World} {name : String} {k : IntKind} {zs : List Int} {g : Nat} (hT : Lib.TabIs P W name k zs) (hg : P.globalNamed name = some g) {cs : List Value} (hc : cs = zs.map fun z => Value.int k z) {l : List (Nat × List Value)}
    (hl : ∀ b o v, glf l b o = some v → W.cell? ⟨b, o, none⟩ = some v ∧ b < W.heap.size) : ∀ b o v, glf ((g, cs) :: l) b o = some v → W.cell? ⟨b, o, none⟩ = some v ∧ b < W.heap.size := fun b o v h => by
  simp only [glf, List.lookup_cons] at h
  by_cases hb : b = g
  · subst hb
    simp only [beq_self_eq_true, Option.bind_some] at h
    have := World.var?_cell hg hT o
    rw [hc] at h
    have h' : W.cell? ⟨b, o, none⟩ = some v := by rw [this]; simpa using h
    exact ⟨h', cell_lt h'⟩
  · have hne : (b == g) = false := by simpa using hb
    rw [hne] at h
    exact hl b o v h

def layBytes (zs : List Nat) : Obj → Obj
  | .cells _ t frozen => .cells (zs.map fun (z : Nat) => Value.int .u8 (z : Int)).toArray t frozen
  | o => o
def layAll (h : Array Obj) : List (Nat × List Nat) → Array Obj
  | [] => h
  | x :: l => layAll (h.modify x.1 (layBytes x.2)) l
noncomputable def startWith (P : Program) (n : Nat) (tabs : List (Nat × List Nat)) (os : Go.Os) : World :=
  let w0 := World.doorLaid P n os
  { w0 with heap := layAll w0.heap tabs }

theorem vr_ints {C : Cx} : ∀ (l : List (IntKind × Int)) (g : Gh) (i : Nat) (x : AV) (y : Value), (l.map fun p => AV.int p.1 p.2)[i]? = some x → (l.map fun p => Value.int p.1 p.2).toArray[i]? = some y → VR C g x y
  | l, g, i, x, y, hx, hy => by
    simp only [List.getElem?_map, Option.map_eq_some_iff] at hx
    obtain ⟨p, hp, rfl⟩ := hx
    simp only [List.getElem?_toArray, List.getElem?_map, hp, Option.map_some, Option.some.injEq] at hy
    subst hy
    exact .int _ _
end Ey

namespace Ey
open Go (IntKind)

noncomputable def eqB (a b : Bool) : Bool := @Bool.rec (fun _ => Bool) (@Bool.rec (fun _ => Bool) true false b) b a
theorem eqB_ok {a b : Bool} (h : eqB a b = true) : a = b := by cases a <;> cases b <;> first | rfl | cases h
theorem ifB_and {a b : Bool} (h : ifB a false b = true) : a = true ∧ b = true := by
  cases a with
  | false => cases h
  | true => exact ⟨rfl, h⟩

noncomputable def eqX (a b : AV) : Bool := match a, b with
  | .flt .f64 n, .flt .f64 m => Nat.beq n m
  | .flt .f32 n, .flt .f32 m => Nat.beq n m
  | .nilmap, .nilmap => true
  | .undef, .undef => true
  | _, _ => false
theorem eqX_ok {a b : AV} (h : eqX a b = true) : a = b := by
  unfold eqX at h
  split at h <;> first | rfl | (cases h; done) | (rw [Nat.eq_of_beq_eq_true h])
noncomputable def eqV : V → V → Bool := @V.rec (fun _ => V → Bool)
  (fun n w => match w with | .i m => Nat.beq n m | _ => false)
  (fun x w => match w with | .b y => eqB x y | _ => false)
  (fun k n w => match w with | .u j m => ifB (Nat.beq k j) false (Nat.beq n m) | _ => false)
  (fun l n w => match w with | .s j m => ifB (Nat.beq l j) false (Nat.beq n m) | _ => false)
  (fun y w => match w with | .x z => eqX y z | _ => false)
  (fun nl _ ih w => match w with | .li nl' c' => ifB (eqB nl nl') false (ih c') | _ => false)
  (fun w => match w with | .c0 => true | _ => false)
  (fun a b c d w => match w with | .ms a' b' c' d' => ifB (Nat.beq a a') false (ifB (Nat.beq b b') false (ifB (Nat.beq c c') false (Nat.beq d d'))) | _ => false)
  (fun _ ih w => match w with | .im v' => ih v' | _ => false)
  (fun w => match w with | .np => true | _ => false)
  (fun a b w => match w with | .pt a' b' => ifB (Nat.beq a a') false (Nat.beq b b') | _ => false)
  (fun a b c d w => match w with | .ap a' b' c' d' => ifB (Nat.beq a a') false (ifB (Nat.beq b b') false (ifB (Nat.beq c c') false (Nat.beq d d'))) | _ => false)
  (fun f _ ih w => match w with | .fn g c' => ifB (Nat.beq f g) false (ih c') | _ => false)
  (fun w => match w with | .nf => true | _ => false)
  (fun t _ ih w => match w with | .fc u v' => ifB (Nat.beq t u) false (ih v') | _ => false)
  (fun w => match w with | .nc => true | _ => false)
  (fun _ ih w => match w with | .ag c' => ih c' | _ => false)
  (fun _ ih w => match w with | .tu c' => ih c' | _ => false)
  (fun w => match w with | .nil => true | _ => false)
  (fun _ _ ih1 ih2 w => match w with | .one h' t' => ifB (ih2 t') false (ih1 h') | _ => false)
  (fun k l n _ ih w => match w with | .run k' l' n' t' => ifB (Nat.beq k k') false (ifB (Nat.beq l l') false (ifB (Nat.beq n n') false (ih t'))) | _ => false)
  (fun _ => false) (fun _ => false) (fun _ => false) (fun _ _ _ => false) (fun _ _ _ => false)
theorem eqV_ok : ∀ a b : V, eqV a b = true → a = b := by
  intro a
  induction a with
  | i n => intro b h; cases b <;> first | (cases h; done) | skip
           rw [Nat.eq_of_beq_eq_true (show Nat.beq n _ = true from h)]
  | b x => intro b h; cases b <;> first | (cases h; done) | skip
           rw [eqB_ok (show eqB x _ = true from h)]
  | u k n => intro b h; cases b <;> first | (cases h; done) | skip
             obtain ⟨h1, h2⟩ := ifB_and h
             rw [Nat.eq_of_beq_eq_true h1, Nat.eq_of_beq_eq_true h2]
  | s k n => intro b h; cases b <;> first | (cases h; done) | skip
             obtain ⟨h1, h2⟩ := ifB_and h
             rw [Nat.eq_of_beq_eq_true h1, Nat.eq_of_beq_eq_true h2]
  | x y => intro b h; cases b <;> first | (cases h; done) | skip
           rw [eqX_ok (show eqX y _ = true from h)]
  | li nl c ih => intro b h; cases b <;> first | (cases h; done) | skip
                  obtain ⟨h1, h2⟩ := ifB_and h
                  rw [eqB_ok h1, ih _ h2]
  | ms a b c d => intro b h; cases b <;> first | (cases h; done) | skip
                  obtain ⟨h1, h2⟩ := ifB_and h
                  obtain ⟨h2, h3⟩ := ifB_and h2
                  obtain ⟨h3, h4⟩ := ifB_and h3
                  rw [Nat.eq_of_beq_eq_true h1, Nat.eq_of_beq_eq_true h2, Nat.eq_of_beq_eq_true h3, Nat.eq_of_beq_eq_true h4]
  | im v ih => intro b h; cases b <;> first | (cases h; done) | skip
               rw [ih _ h]
  | pt k n => intro b h; cases b <;> first | (cases h; done) | skip
              obtain ⟨h1, h2⟩ := ifB_and h
              rw [Nat.eq_of_beq_eq_true h1, Nat.eq_of_beq_eq_true h2]
  | ap a b c d => intro b h; cases b <;> first | (cases h; done) | skip
                  obtain ⟨h1, h2⟩ := ifB_and h
                  obtain ⟨h2, h3⟩ := ifB_and h2
                  obtain ⟨h3, h4⟩ := ifB_and h3
                  rw [Nat.eq_of_beq_eq_true h1, Nat.eq_of_beq_eq_true h2, Nat.eq_of_beq_eq_true h3, Nat.eq_of_beq_eq_true h4]
  | fn f c ih => intro b h; cases b <;> first | (cases h; done) | skip
                 obtain ⟨h1, h2⟩ := ifB_and h
                 rw [Nat.eq_of_beq_eq_true h1, ih _ h2]
  | fc f c ih => intro b h; cases b <;> first | (cases h; done) | skip
                 obtain ⟨h1, h2⟩ := ifB_and h
                 rw [Nat.eq_of_beq_eq_true h1, ih _ h2]
  | ag c ih => intro b h; cases b <;> first | (cases h; done) | skip
               rw [ih _ h]
  | tu c ih => intro b h; cases b <;> first | (cases h; done) | skip
               rw [ih _ h]
  | one h t ihh iht => intro b h; cases b <;> first | (cases h; done) | skip
                       obtain ⟨h1, h2⟩ := ifB_and h
                       rw [iht _ h1, ihh _ h2]
  | run k l n t ih => intro b h; cases b <;> first | (cases h; done) | skip
                      obtain ⟨h1, h2⟩ := ifB_and h
                      obtain ⟨h2, h3⟩ := ifB_and h2
                      obtain ⟨h3, h4⟩ := ifB_and h3
                      rw [Nat.eq_of_beq_eq_true h1, Nat.eq_of_beq_eq_true h2, Nat.eq_of_beq_eq_true h3, ih _ h4]
  | _ => intro b h; cases b <;> first | rfl | (cases h; done)

noncomputable def eqK (a b : Bk) : Bool := @Bk.rec (fun _ => Bool) (match b with | .no => true | _ => false) (fun c => match b with | .obj d => eqV c d | _ => false)
  (fun nl sz len c => match b with | .arr nl' sz' len' d => ifB (eqB nl nl') false (ifB (Nat.beq sz sz') false (ifB (Nat.beq len len') false (eqV c d))) | _ => false) (fun c => match b with | .mp d => eqV c d | _ => false) a
theorem eqK_ok {a b : Bk} (h : eqK a b = true) : a = b := by
  cases a with
  | no => cases b <;> first | rfl | (cases h; done)
  | obj c => cases b <;> first | (cases h; done) | skip
             rw [eqV_ok _ _ (show eqV c _ = true from h)]
  | arr nl sz len c => cases b <;> first | (cases h; done) | skip
                       obtain ⟨h1, h2⟩ := ifB_and h
                       obtain ⟨h2, h3⟩ := ifB_and h2
                       obtain ⟨h3, h4⟩ := ifB_and h3
                       rw [eqB_ok h1, Nat.eq_of_beq_eq_true h2, Nat.eq_of_beq_eq_true h3, eqV_ok _ _ h4]
  | mp c => cases b <;> first | (cases h; done) | skip
            rw [eqV_ok _ _ (show eqV c _ = true from h)]
noncomputable def eqM : HB → HB → Bool := @HB.rec (fun _ => HB → Bool)
  (fun w => match w with | .nil => true | _ => false)
  (fun b _ _ ihl ihr w => match w with | .nd b' l' r' => ifB (eqK b b') false (ifB (ihl l') false (ihr r')) | _ => false)
theorem eqM_ok : ∀ a b : HB, eqM a b = true → a = b := by
  intro a
  induction a with
  | nil => intro b h; cases b <;> first | rfl | (cases h; done)
  | nd b l r ihl ihr => intro w h; cases w <;> first | (cases h; done) | skip
                        obtain ⟨h1, h2⟩ := ifB_and h
                        obtain ⟨h2, h3⟩ := ifB_and h2
                        rw [eqK_ok h1, ihl _ h2, ihr _ h3]
noncomputable def eqH (a b : ZH) : Bool := @ZH.rec (fun _ => Bool) (fun n r l => @ZH.rec (fun _ => Bool) (fun n' r' l' => ifB (Nat.beq n n') false (ifB (Nat.beq r r') false (eqM l l'))) b) a
theorem eqH_ok {a b : ZH} (h : eqH a b = true) : a = b := by
  obtain ⟨n, r, l⟩ := a
  obtain ⟨n', r', l'⟩ := b
  obtain ⟨h1, h2⟩ := ifB_and (show ifB (Nat.beq n n') false (ifB (Nat.beq r r') false (eqM l l')) = true from h)
  obtain ⟨h2, h3⟩ := ifB_and h2
  rw [Nat.eq_of_beq_eq_true h1, Nat.eq_of_beq_eq_true h2, eqM_ok _ _ h3]

noncomputable def okM : HB → Bool := @HB.rec (fun _ => Bool) true (fun b _ _ ihl ihr => ifB (@Bk.rec (fun _ => Bool) true (fun _ => true) (fun _ _ len c => Nat.beq len (lenC c)) (fun c => Nat.beq (Nat.mod (lenC c) 2) 0) b) false (ifB ihl false ihr))
theorem okM_ok : ∀ b : HB, okM b = true → b.ok := by
  intro b
  induction b with
  | nil => intro _; trivial
  | nd b l r ihl ihr =>
    intro h
    obtain ⟨h1, h2⟩ := ifB_and h
    obtain ⟨h2, h3⟩ := ifB_and h2
    refine ⟨?_, ihl h2, ihr h3⟩
    cases b with
    | arr nl sz len c => show len = _; rw [← lenC_eq]; exact Nat.eq_of_beq_eq_true h1
    | mp c => show _ % 2 = 0; rw [← lenC_eq]; exact Nat.eq_of_beq_eq_true h1
    | _ => trivial

noncomputable def canT (v : V) : V := match v with
  | .tu c => .tu (canA c)
  | w => canV w
theorem canT_eq (v : V) : (canT v).av = v.av := by
  unfold canT
  split
  · exact congrArg AV.tup (canA_eq _)
  · exact (canV_eq _).1
theorem canT_pv {v : V} (h : v.pv = some v.av) : (canT v).pv = some (canT v).av := by
  cases v <;> first | rfl | cases h
structure Mem where
  w : V
  H : ZH
  v : V
  H' : ZH
noncomputable def isM (r : FR) (m : Mem) : Bool := @FR.rec (fun _ => Bool) (fun v H => ifB (eqV (canT v) m.v) false (eqH H m.H')) (fun _ _ => false) false r
section
variable {Φ : Nat → Option AFn}
def MemOK (Φ : Nat → Option AFn) (f : Nat) (m : Mem) : Prop := Agf (.ret m.v m.H') (evC Φ f m.w.cl m.H.heap)
theorem mem_run {look : Nat → ZE} (h : ∀ f, ZEok Φ f (look f)) {n f : Nat} {m : Mem} (hr : ifB (okM m.H.bl) false (isM (callZ look n f m.w m.H) m) = true) : MemOK Φ f m := by
  obtain ⟨h1, h2⟩ := ifB_and hr
  have key := callZ_ok h n f m.w m.H (okM_ok _ h1)
  revert key h2
  generalize callZ look n f m.w m.H = r
  intro h2 key
  cases r with
  | ret v H =>
    obtain ⟨h3, h4⟩ := ifB_and (show ifB (eqV (canT v) m.v) false (eqH H m.H') = true from h2)
    rw [eqH_ok h4] at key
    unfold MemOK
    rw [← eqV_ok _ _ h3]
    obtain ⟨k1, k2, k3⟩ := key
    exact ⟨by rw [canT_eq v]; exact k1, k2, canT_pv k3⟩
  | pan v H => cases h2
  | bad => cases h2
noncomputable def memF (l : List Mem) (w : V) (H : ZH) (x : FR) : FR := @List.rec Mem (fun _ => FR) x (fun m _ ih => ifB (eqH H m.H) ih (ifB (eqV w m.w) ih (.ret m.v m.H'))) l
theorem memF_ok {f : Nat} {w : V} {H : ZH} {x : FR} (hx : Agf x (evC Φ f w.cl H.heap)) : ∀ l : List Mem, (∀ m ∈ l, MemOK Φ f m) → Agf (memF l w H x) (evC Φ f w.cl H.heap)
  | [], _ => hx
  | m :: l, hl => by
    have ih := memF_ok hx l fun m' hm => hl m' (List.mem_cons_of_mem _ hm)
    show Agf (ifB (eqH H m.H) (memF l w H x) (ifB (eqV w m.w) (memF l w H x) (.ret m.v m.H'))) _
    cases h1 : eqH H m.H with
    | false => exact ih
    | true =>
      cases h2 : eqV w m.w with
      | false => exact ih
      | true =>
        have := hl m (List.mem_cons_self ..)
        rw [eqH_ok h1, eqV_ok _ _ h2]
        exact this
theorem memZ_ok {f : Nat} {af : AFn} (hf : Φ f = some af) {l : List Mem} (hl : ∀ m ∈ l, MemOK Φ f m) {an : An} {N : List Nat} : ZEok Φ f (.mem (memF l) af an N) := ⟨hf, fun _ _ _ _ hx => memF_ok hx l hl⟩
theorem nats_nil {zs : List ZE} (h : ∀ f, ZEok Φ f (lookZ zs f)) (f : Nat) : ZEok Φ f (natsZ [] zs f) := h f
theorem nats_cons {zs : List ZE} {g : Nat} {e : ZE} {l : List (Nat × ZE)} (he : ZEok Φ g e) (h : ∀ f, ZEok Φ f (natsZ l zs f)) (f : Nat) : ZEok Φ f (natsZ ((g, e) :: l) zs f) := by
  simp only [natsZ, beq_dec]
  by_cases hfg : f = g
  · subst hfg; simp only [decide_true, cond_true]; exact he
  · simp only [hfg, decide_false, cond_false]; exact h f
end
end Ey
