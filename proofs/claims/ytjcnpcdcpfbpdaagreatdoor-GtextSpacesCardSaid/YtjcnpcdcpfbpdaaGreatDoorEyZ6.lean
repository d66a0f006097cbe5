/- The fast form: operations that change something. -/
import Derived.Test.YtjcnpcdcpfbpdaaGreatDoorEyZM
namespace Ey
open Go (IntKind FloatKind BinOp UnOp)

abbrev ZCaller := Nat → V → ZH → FR
def AgrZ (cl : ZCaller) (c : Caller) : Prop := ∀ f w H, H.ok → Agf (cl f w H) (c f w.cl H.heap)

/-- where a call goes on: behind its end, behind a panic -/
structure KR (J : List Nat) where
  r : E J → ZH → FR
  p : V → E J → ZH → FR

def Oc (S S' J : List Nat) : Type := ZCaller → (E S' → ZH → FR) → KR J → E S → ZH → FR

/-! ### slots set, slots chosen -/
def dS (d : Option Nat) (S : List Nat) : List Nat := match d with
  | none => S
  | some s => s :: S
noncomputable def setD (d : Option Nat) {S : List Nat} (e : E S) (v : V) : E (dS d S) := @Option.rec Nat (fun d => E (dS d S)) e (fun s => E.cons s v e) d
theorem rel_setD {S : List Nat} {e : E S} {x : Env} (h : Rel S e x) (d : Option Nat) {v : V} {s : Sl} (hv : v.den s) : Rel (dS d S) (setD d e v) (setDst d s x) := by
  cases d with
  | none => exact h
  | some a => exact rel_cons h a hv
structure Nm (S J : List Nat) where
  run : E S → E J
def nrmC (S : List Nat) : (J : List Nat) → Nm S J
  | [] => ⟨fun _ => E.none⟩
  | j :: r => ⟨fun e => E.cons j ((acc S j).run e) ((nrmC S r).run e)⟩
theorem rel_nrm {S : List Nat} {e : E S} {x : Env} (h : Rel S e x) : ∀ J : List Nat, Rel J ((nrmC S J).run e) x
  | [] => fun s => trivial
  | j :: r => fun s => by
    simp only [getE]
    split
    · rename_i hs
      subst hs
      show ((acc S s).run e).den _
      rw [acc_eq]; exact h s
    · exact rel_nrm h r s
structure Up (S : List Nat) where
  run : E S → V → E S
def upC : (S : List Nat) → Nat → Up S
  | [], _ => ⟨fun e _ => e⟩
  | a :: r, s => bif Nat.beq s a then ⟨fun e v => E.cons a v e.tl⟩ else ⟨fun e v => E.cons a e.hd ((upC r s).run e.tl v)⟩
theorem upC_get : ∀ (S : List Nat) (s : Nat) (e : E S) (v : V) (t : Nat), getE S ((upC S s).run e v) t = getE S e t ∨ (t = s ∧ getE S ((upC S s).run e v) t = v)
  | [], _, _, _, _ => .inl rfl
  | a :: r, s, e, v, t => by
    simp only [upC, beq_dec]
    by_cases h : s = a
    · subst h
      simp only [decide_true, cond_true, getE]
      by_cases ht : t = s
      · exact .inr ⟨ht, by rw [if_pos ht]; rfl⟩
      · rw [if_neg ht, if_neg ht]; exact .inl rfl
    · simp only [h, decide_false, cond_false, getE]
      by_cases ht : t = a
      · rw [if_pos ht, if_pos ht]; exact .inl rfl
      · rw [if_neg ht, if_neg ht]; exact upC_get r s e.tl v t
theorem upC_miss : ∀ (S : List Nat) (s : Nat) (e : E S) (v : V), getE S ((upC S s).run e v) s = v ∨ getE S ((upC S s).run e v) s = .wh
  | [], _, _, _ => .inr rfl
  | a :: r, s, e, v => by
    simp only [upC, beq_dec]
    by_cases h : s = a
    · subst h
      simp only [decide_true, cond_true, getE, if_true]; exact .inl rfl
    · simp only [h, decide_false, cond_false, getE, if_false]
      exact upC_miss r s e.tl v
theorem rel_up {S : List Nat} {e : E S} {x : Env} (h : Rel S e x) (s : Nat) {v : V} {sl : Sl} (hv : v.den sl) : Rel S ((upC S s).run e v) ((s, sl) :: x) := by
  intro t
  simp only [Env.get]
  by_cases ht : t = s
  · subst ht
    rw [if_pos rfl]
    rcases upC_miss S t e v with h1 | h1 <;> rw [h1]
    · exact hv
    · trivial
  · rw [if_neg ht]
    rcases upC_get S s e v t with h1 | h1
    · rw [h1]; exact h t
    · exact absurd h1.1 ht

/-- how an operation goes on -/
def Go1 {S' : List Nat} (κ : E S' → ZH → FR) (q : Pr) (o : Option Out) : Prop := ∀ e' x' H', H'.ok → o = some (.go .nrm x' H'.heap) → Rel S' e' x' → Agr (κ e' H') q
def Pan1 {J : List Nat} (kr : KR J) (q : Pr) (o : Option Out) : Prop := ∀ v er x' H', H'.ok → o = some (.pan v.av x' H'.heap) → v.pv = some v.av → Rel J er x' → Agr (kr.p v er H') q
def OcOK {S S' J : List Nat} (d : Option Nat) (op : AOp) (oc : Oc S S' J) : Prop := ∀ (cl : ZCaller) (c : Caller), AgrZ cl c → ∀ (e : E S) (x : Env) (H : ZH) (κ : E S' → ZH → FR) (kr : KR J) (q : Pr), H.ok → Rel S e x →
  Go1 κ q (opS c d x H.heap op) → Pan1 kr q (opS c d x H.heap op) → Agr (oc cl κ kr e H) q

section
variable {S J : List Nat}

noncomputable def natR (n : Nat) (k : Nat → FR) : FR := @Nat.rec (fun _ => FR) (k 0) (fun m _ => k (Nat.succ m)) n
theorem natR_eq (n : Nat) (k : Nat → FR) : natR n k = k n := by cases n <;> rfl
/-- memory, taken apart -/
noncomputable def hK (H : ZH) (k : Nat → Nat → HB → FR) : FR := @ZH.rec (fun _ => FR) k H
theorem hK_eq (H : ZH) (k : Nat → Nat → HB → FR) : hK H k = k H.next H.ro H.bl := rfl
noncomputable def nwO (H : ZH) (c : V) (k : Nat → ZH → FR) : FR := hK H fun nx ro bl => natR nx fun i => k i ⟨Nat.succ i, ro, .obj i c bl⟩
theorem nwO_eq (H : ZH) (c : V) (k : Nat → ZH → FR) : nwO H c k = k H.next ⟨H.next + 1, H.ro, .obj H.next c H.bl⟩ := by
  rw [nwO, hK_eq, natR_eq]
noncomputable def nwA (H : ZH) (nl : Bool) (sz len : Nat) (c : V) (k : Nat → ZH → FR) : FR := hK H fun nx ro bl => natR nx fun i => k i ⟨Nat.succ i, ro, .arr i nl sz len c bl⟩
theorem nwA_eq (H : ZH) (nl : Bool) (sz len : Nat) (c : V) (k : Nat → ZH → FR) : nwA H nl sz len c k = k H.next ⟨H.next + 1, H.ro, .arr H.next nl sz len c H.bl⟩ := by
  rw [nwA, hK_eq, natR_eq]

/-- a value that a plain operation answers -/
noncomputable def oPv (d : Option Nat) (p : Pv S) : Oc S (dS d S) J := (fun _ κ _ e H => p e H fun w => κ (setD d e w) H)
theorem oPv_ok {d : Option Nat} {op : AOp} {p : Pv S} (hp : PvOK op p) (hop : ∀ c x H, opS c d x H op = match opv x H op with | some s => some (.go .nrm (setDst d s x) H) | none => none) : OcOK d op (oPv (J := J) d p) := fun cl c hcl e x H κ kr q hH h hg _ => by
  refine hp e x H _ q hH h fun w s hs hw => hg _ (setDst d s x) H hH ?_ (rel_setD h d hw)
  rw [hop, hs]

noncomputable def oAlv (s : Nat) (cs : List AV) : Oc S (s :: S) J := (fun _ κ _ e H => nlK ((acc S s).run e) .bad (κ (E.cons s (.lv (ofCs cs)) e) H))
theorem get_den {e : E S} {x : Env} (h : Rel S e x) (s : Nat) : ((acc S s).run e).den (x.get s) := by rw [acc_eq]; exact h s
theorem oAlv_ok (s : Nat) (cs : List AV) : OcOK (some s) (.alv cs) (oAlv (S := S) (J := J) s cs) := fun cl c hcl e x H κ kr q hH h hg _ => by
  unfold oAlv
  refine nlK_ok (P := fun r => Agr r q) (get_den h s) q.bad fun hn => hg _ ((s, .lv cs) :: x) H hH ?_ (rel_cons h s (by show Sl.lv cs = .lv (ofCs cs).cl; rw [ofCs_cl]))
  simp only [opS]
noncomputable def oBlv (s sz : Nat) (v : Opd) : Oc S (s :: S) J := (fun _ κ _ e H => nlK ((acc S s).run e) .bad (ceK ((opd S v).run e) .bad fun c => ifB (Nat.beq (lenC c) sz) .bad (κ (E.cons s (.lv c) e) H)))
theorem oBlv_ok (s sz : Nat) (v : Opd) : OcOK (some s) (.blv sz v) (oBlv (S := S) (J := J) s sz v) := fun cl c hcl e x H κ kr q hH h hg _ => by
  unfold oBlv
  refine nlK_ok (P := fun r => Agr r q) (get_den h s) q.bad fun hn => ceK_ok (P := fun r => Agr r q) q.bad fun w hp hw => ?_
  rw [ifB_beq, lenC_eq]
  split
  · rename_i hl
    rw [hw] at hl
    refine hg _ ((s, .lv ((opd S v).run e).av.cells) :: x) H hH ?_ (rel_cons h s (by show Sl.lv _ = .lv w.cl; rw [hw]))
    simp only [opS, opd_val h v _ hp]
    rw [if_pos hl]
  · exact q.bad
noncomputable def oAob (d : Option Nat) (cs : List AV) : Oc S (dS d S) J := (fun _ κ _ e H => nwO H (ofCs cs) fun i H' => κ (setD d e (.pt i 0)) H')
theorem oAob_ok (d : Option Nat) (cs : List AV) : OcOK d (.aob cs) (oAob (S := S) (J := J) d cs) := fun cl c hcl e x H κ kr q hH h hg _ => by
  show Agr (nwO H (ofCs cs) fun i H' => κ (setD d e (.pt i 0)) H') q
  rw [nwO_eq]
  refine hg _ (setDst d (.v (.ptr H.next 0)) x) _ hH ?_ (rel_setD h d rfl)
  rw [heap_new_obj, ofCs_cl]; rfl
noncomputable def oBob (d : Option Nat) (sz : Nat) (v : Opd) : Oc S (dS d S) J := (fun _ κ _ e H => ceK ((opd S v).run e) .bad fun c => ifB (Nat.beq (lenC c) sz) .bad (nwO H c fun i H' => κ (setD d e (.pt i 0)) H'))
theorem oBob_ok (d : Option Nat) (sz : Nat) (v : Opd) : OcOK d (.bob sz v) (oBob (S := S) (J := J) d sz v) := fun cl c hcl e x H κ kr q hH h hg _ => by
  unfold oBob
  refine ceK_ok (P := fun r => Agr r q) q.bad fun w hp hw => ?_
  rw [ifB_beq, lenC_eq, nwO_eq]
  split
  · rename_i hl
    rw [hw] at hl
    refine hg _ (setDst d (.v (.ptr H.next 0)) x) _ hH ?_ (rel_setD h d rfl)
    rw [heap_new_obj, hw]
    simp only [opS, opd_val h v _ hp]
    rw [if_pos hl]; rfl
  · exact q.bad

/-! ### stores -/
noncomputable def puE (y : V) (off : Nat) (w : V) (k : V → FR) : FR := ceK y .bad fun c => ifB (Nat.ble (Nat.add off (lenC w)) (lenC c)) .bad
  (ifB (Nat.beq (lenC c) (lenC w)) (k (.ag (putC' c off w))) (agK y (nthC .bad k w 0) fun _ => k (.ag w)))
theorem puE_ok {q : Pr} {y : V} {off : Nat} {w : V} {k : V → FR} (hk : ∀ u : V, off + w.cl.length ≤ y.av.cells.length → u.av = putElem y.av off w.cl → Agr (k u) q) : Agr (puE y off w k) q := by
  refine ceK_ok' (P := fun r => Agr r q) q.bad fun c hp hc ho => ?_
  rw [ifB_ble, ifB_beq, lenC_eq, lenC_eq, hc]
  split
  · rename_i h1
    have h1' : off + w.cl.length ≤ y.av.cells.length := h1
    split
    · rename_i h2
      have ho' : off = 0 := by omega
      subst ho'
      rcases ho with ⟨u, rfl⟩ | hn
      · exact hk (.ag w) h1' (by simp only [putElem, h2, and_self, if_true]; rfl)
      · have e : agK y (nthC .bad k w 0) (fun _ => k (.ag w)) = nthC .bad k w 0 := by
          cases y <;> first | rfl | exact absurd rfl (hn _)
        rw [e]
        refine nthC_ok (P := fun r => Agr r q) q.bad w 0 fun v hv => hk v h1' ?_
        simp only [putElem, h2, and_self, if_true]
        have : w.cl.headD .undef = v.av := by
          cases hw : w.cl with
          | nil => rw [hw] at hv; simp at hv
          | cons a l => rw [hw] at hv; simp at hv; simp [hv]
        exact this.symm
    · rename_i h2
      refine hk (.ag _) h1' ?_
      simp only [V.av, putElem]
      rw [if_neg (fun h => h2 h.1), putC'_eq w (by rw [hc]; exact h1'), hc]
  · exact q.bad

noncomputable def stO (H : ZH) (i off : Nat) (w : V) (k : ZH → FR) : FR := hK H fun nx ro bl => ifB (Nat.ble ro i) .bad (obK i .bad (fun c => ifB (Nat.ble (Nat.add off (lenC w)) (lenC c)) .bad (k ⟨nx, ro, .obj i (putC' c off w) (deB i bl)⟩)) bl)
noncomputable def stA (H : ZH) (i ver j off : Nat) (w : V) (k : ZH → FR) : FR := hK H fun nx ro bl => ifB (Nat.ble ro i) .bad (arK i .bad (fun nl z len c => ifB (Nat.beq len ver) .bad (nthC .bad (fun y => puE y off w fun u => k ⟨nx, ro, .arr i nl z len (setC u c j) (deB i bl)⟩) c j)) bl)
theorem stO_ok {q : Pr} {x : Env} {H : ZH} (hH : H.ok) {i off : Nat} {w : V} {k : ZH → FR} (hk : ∀ H', H'.ok → stS x H.heap w.cl (.v (.ptr i off)) = some (x, H'.heap) → Agr (k H') q) : Agr (stO H i off w k) q := by
  unfold stO
  rw [hK_eq, ifB_ble]
  split
  · rename_i h0
    refine obK_ok (P := fun r => Agr r q) q.bad _ fun c hc => ?_
    rw [ifB_ble, lenC_eq, lenC_eq]
    split
    · rename_i h1
      have h1' : off + w.cl.length ≤ c.cl.length := h1
      refine hk _ (deB_ok i _ hH) ?_
      have h2 : H.heap.get i = some (.obj c.cl) := hc
      have h3 : ¬ i < H.heap.ro := Nat.not_lt.2 h0
      simp only [stS, h3, if_false, h2, h1', if_true, heap_obj, putC'_eq w h1']
    · exact q.bad
  · exact q.bad
theorem stA_ok {q : Pr} {x : Env} {H : ZH} (hH : H.ok) {i ver j off : Nat} {w : V} {k : ZH → FR} (hk : ∀ H', H'.ok → stS x H.heap w.cl (.v (.ap i ver j off)) = some (x, H'.heap) → Agr (k H') q) : Agr (stA H i ver j off w k) q := by
  unfold stA
  rw [hK_eq, ifB_ble]
  split
  · rename_i h0
    refine arK_ok (P := fun r => Agr r q) q.bad _ hH fun nl z c hc => ?_
    rw [ifB_beq]
    split
    · rename_i hl
      refine nthC_ok (P := fun r => Agr r q) q.bad c j fun y hy => puE_ok fun u h1 hu => hk _ ⟨by rw [setC_eq, List.length_set], deB_ok i _ hH⟩ ?_
      have h2 : H.heap.get i = some (.arr nl z c.cl) := hc
      have h3 : ¬ i < H.heap.ro := Nat.not_lt.2 h0
      simp only [stS, h3, if_false, h2, hl, if_true, hy, h1, heap_arr, setC_eq, hu]
    · exact q.bad
  · exact q.bad
noncomputable def oSt (sz : Nat) (a v : Opd) : Oc S S J := (fun _ κ _ e H => ceK ((opd S v).run e) .bad fun w => ifB (Nat.beq (lenC w) sz) .bad (adK (opn a) ((opd S a).run e) .bad
  (fun s off => lvR S s e .bad fun c => ifB (Nat.ble (Nat.add off sz) (lenC c)) .bad (κ ((upC S s).run e (.lv (putC' c off w))) H)) (fun _ => .bad)
  (fun i off => stO H i off w fun H' => κ e H') (fun i ver j off => stA H i ver j off w fun H' => κ e H')))
theorem oSt_ok (d : Option Nat) (sz : Nat) (a v : Opd) : OcOK d (.st sz a v) (oSt (S := S) (J := J) sz a v) := fun cl c hcl e x H κ kr q hH h hg _ => by
  unfold oSt
  refine ceK_ok (P := fun r => Agr r q) q.bad fun w hp hw => ?_
  rw [ifB_beq, lenC_eq]
  split
  · rename_i hl
    have hv := opd_val h v _ hp
    have key : ∀ x' H', stS x H.heap w.cl (x.sl a) = some (x', H') → opS c d x H.heap (.st sz a v) = some (.go .nrm x' H') := fun x' H' hs => by
      simp only [opS, hv, ← hw, hl, if_true, hs]
    refine adK_ok (P := fun r => Agr r q) (opd_dle h a) q.bad (fun t off hs => lvR_ok h q.bad fun c' hc' => ?_) (fun _ _ => q.bad)
      (fun i off hs => stO_ok hH fun H' hH' hst => hg e x H' hH' (key _ _ (by rw [hs]; exact hst)) h) (fun i ver j off hs => stA_ok hH fun H' hH' hst => hg e x H' hH' (key _ _ (by rw [hs]; exact hst)) h)
    rw [ifB_ble, lenC_eq]
    split
    · rename_i h1
      have h1' : off + w.cl.length ≤ c'.cl.length := by rw [hl]; exact h1
      refine hg _ ((t, .lv (putAt c'.cl off w.cl)) :: x) H hH (key _ _ ?_) (rel_up h t (by show Sl.lv _ = .lv (putC' c' off w).cl; rw [putC'_eq w h1']))
      rw [hs]; simp only [stS, hc', h1', if_true]
    · exact q.bad
  · exact q.bad
noncomputable def oSto (d : Option Nat) (sz : Nat) (a v : Opd) : Oc S (dS d S) J := (fun _ κ _ e H => ceK ((opd S v).run e) .bad fun w => ifB (Nat.beq (lenC w) sz) .bad (adK (opn a) ((opd S a).run e) .bad
  (fun _ _ => .bad) (fun _ => .bad)
  (fun i off => stO H i off w fun H' => κ (setD d e .un) H') (fun i ver j off => stA H i ver j off w fun H' => κ (setD d e .un) H')))
theorem oSto_ok (d : Option Nat) (sz : Nat) (a v : Opd) : OcOK d (.sto sz a v) (oSto (S := S) (J := J) d sz a v) := fun cl c hcl e x H κ kr q hH h hg _ => by
  unfold oSto
  refine ceK_ok (P := fun r => Agr r q) q.bad fun w hp hw => ?_
  rw [ifB_beq, lenC_eq]
  split
  · rename_i hl
    have hv := opd_val h v _ hp
    have key : ∀ y H', x.sl a = .v y → stS x H.heap w.cl (.v y) = some (x, H') → opS c d x H.heap (.sto sz a v) = some (.go .nrm (setDst d .un x) H') := fun y H' hy hs => by
      simp only [opS, hy, hv, ← hw, hl, if_true, hs]
    exact adK_ok (P := fun r => Agr r q) (opd_dle h a) q.bad (fun t off hs => q.bad) (fun _ _ => q.bad)
      (fun i off hs => stO_ok hH fun H' hH' hst => hg _ _ H' hH' (key _ _ hs hst) (rel_setD h d rfl)) (fun i ver j off hs => stA_ok hH fun H' hH' hst => hg _ _ H' hH' (key _ _ hs hst) (rel_setD h d rfl))
  · exact q.bad

/-- one cell -/
noncomputable def oSt1 (a v : Opd) : Oc S S J := (fun cl κ kr e H => onK ((opd S v).run e) (oSt 1 a v cl κ kr e H) (adK (opn a) ((opd S a).run e) .bad
  (fun s off => lvR S s e .bad fun c => setK ((opd S v).run e) .bad c off fun c' => κ ((upC S s).run e (.lv c')) H) (fun _ => .bad)
  (fun i off => @ZH.rec (fun _ => FR) (fun nx ro bl => @Bool.rec (fun _ => FR) .bad (obK i .bad (fun c => setK ((opd S v).run e) .bad c off fun c' => κ e ⟨nx, ro, .obj i c' (deB i bl)⟩) bl) (Nat.ble ro i)) H)
  (fun i ver j off => hK H fun nx ro bl => @Bool.rec (fun _ => FR) .bad (arK i .bad (fun nl z len c => ifB (Nat.beq len ver) .bad (nthC .bad (fun y => agK y
      (onK y .bad (@Nat.rec (fun _ => FR) (setK ((opd S v).run e) .bad c j fun c' => κ e ⟨nx, ro, .arr i nl z len c' (deB i bl)⟩) (fun _ _ => .bad) off))
      (fun cy => setK ((opd S v).run e) .bad cy off fun cy' => setK (.ag cy') .bad c j fun c' => κ e ⟨nx, ro, .arr i nl z len c' (deB i bl)⟩)) c j)) bl) (Nat.ble ro i))))
theorem putElem_agg {cs : List AV} {off : Nat} {v : AV} (h : off < cs.length) : putElem (.agg cs) off [v] = .agg (cs.set off v) := by
  unfold putElem
  by_cases hh : (AV.agg cs).cells.length = [v].length ∧ off = 0
  · rw [if_pos hh]
    obtain ⟨h1, rfl⟩ := hh
    have h1' : cs.length = 1 := h1
    match cs, h1' with
    | [z], _ => rfl
  · rw [if_neg hh, set_putAt h]; rfl
theorem oSt1_ok (d : Option Nat) (a v : Opd) : OcOK d (.st 1 a v) (oSt1 (S := S) (J := J) a v) := fun cl c hcl e x H κ kr q hH h hg hpn => by
  unfold oSt1
  refine onK_ok (P := fun r => Agr r q) (oSt_ok d 1 a v cl c hcl e x H κ kr q hH h hg hpn) fun hp h1 => ?_
  have hv := opd_val h v _ hp
  have hc1 := one_cells h1
  generalize (opd S v).run e = vv at *
  have key : ∀ x' H', stS x H.heap [vv.av] (x.sl a) = some (x', H') → opS c d x H.heap (.st 1 a v) = some (.go .nrm x' H') := fun x' H' hs => by
    simp only [opS, hv, hc1, List.length_singleton, if_true, hs]
  refine adK_ok (P := fun r => Agr r q) (opd_dle h a) q.bad (fun t off hs => lvR_ok h q.bad fun c' hc' => setK_ok _ q.bad c' off _ fun w hl hw => ?_) (fun _ _ => q.bad) (fun i off hs => ?_) (fun i ver j off hs => ?_)
  · refine hg _ ((t, .lv (putAt c'.cl off [vv.av])) :: x) H hH (key _ _ ?_) (rel_up h t (by show Sl.lv _ = .lv w.cl; rw [hw, set_putAt hl]))
    have hl' : off + [vv.av].length ≤ c'.cl.length := hl
    rw [hs]; simp only [stS, hc', hl', if_true]
  · show Agr (@Bool.rec (fun _ => FR) .bad (obK i .bad (fun c => setK vv .bad c off fun c' => κ e ⟨H.next, H.ro, .obj i c' (deB i H.bl)⟩) H.bl) (Nat.ble H.ro i)) q
    cases hb : Nat.ble H.ro i with
    | false => exact q.bad
    | true =>
      have h3 : ¬ i < H.heap.ro := Nat.not_lt.2 (Nat.le_of_ble_eq_true hb)
      refine obK_ok (P := fun r => Agr r q) q.bad _ fun c' hc' => setK_ok _ q.bad c' off _ fun w hl hw => hg _ x _ (deB_ok i _ hH) (key _ _ ?_) h
      have h2 : H.heap.get i = some (.obj c'.cl) := hc'
      have hl' : off + [vv.av].length ≤ c'.cl.length := hl
      rw [hs]; simp only [stS, h3, if_false, h2, hl', if_true, heap_obj, hw, set_putAt hl]
  · rw [hK_eq]
    cases hb : Nat.ble H.ro i with
    | false => exact q.bad
    | true =>
      have h3 : ¬ i < H.heap.ro := Nat.not_lt.2 (Nat.le_of_ble_eq_true hb)
      refine arK_ok (P := fun r => Agr r q) q.bad _ hH fun nl z c' hc' => ?_
      have h2 : H.heap.get i = some (.arr nl z c'.cl) := hc'
      rw [ifB_beq]
      split
      · rename_i hlen
        refine nthC_ok (P := fun r => Agr r q) q.bad c' j fun y hy => ?_
        have fin : ∀ (u w : V), u.av = putElem y.av off [vv.av] → off + 1 ≤ y.av.cells.length → w.cl = c'.cl.set j u.av → Agr (κ e ⟨H.next, H.ro, .arr i nl z c'.cl.length w (deB i H.bl)⟩) q := fun u w hu ho hw => by
          refine hg _ x _ ⟨by rw [hw, List.length_set], deB_ok i _ hH⟩ (key _ _ ?_) h
          have ho' : off + [vv.av].length ≤ y.av.cells.length := ho
          rw [hs]; simp only [stS, h3, if_false, h2, hlen, if_true, hy, ho', heap_arr, hw, hu]
        have plain : Agr (onK y .bad (@Nat.rec (fun _ => FR) (setK vv .bad c' j fun c2 => κ e ⟨H.next, H.ro, .arr i nl z c'.cl.length c2 (deB i H.bl)⟩) (fun _ _ => .bad) off)) q := by
          refine onK_ok (P := fun r => Agr r q) q.bad fun _ hy1 => ?_
          cases off with
          | succ o => exact q.bad
          | zero =>
            refine setK_ok _ q.bad c' j _ fun w hl hw => fin vv w ?_ (by rw [one_cells hy1]; exact Nat.le_refl _) hw
            simp only [putElem, one_cells hy1, List.length_singleton, and_self, if_true]
            split
            · rename_i l hl2; rw [hl2] at hy1; cases hy1
            · rfl
        cases y with
        | ag cy =>
          refine setK_ok _ q.bad cy off _ fun cy' hl1 hcy' => setK_ok _ q.bad c' j _ fun w hl hw => fin (.ag cy') w ?_ hl1 hw
          show AV.agg cy'.cl = putElem (.agg cy.cl) off [vv.av]
          rw [hcy', putElem_agg hl1]
        | _ => exact plain
      · exact q.bad

/-! ### append and its like -/
noncomputable def elZ (H : ZH) (sz : Nat) (v : V) (k : V → FR) : FR := slcK' v (sK v .bad fun l n => ifB (Nat.beq sz 1) .bad (k (.run 2 l (up8 l n) .nil))) (fun _ c => ifB (allC sz c) .bad (k c)) (k .nil)
  fun id ver lo len => arK id .bad (fun _ z l c => ifB (Nat.beq z sz) .bad (ifB (Nat.beq l ver) .bad (ifB (Nat.ble (Nat.add lo len) ver) .bad (k (takeC (dropC c lo) len))))) H.bl
theorem elZ_ok {q : Pr} {H : ZH} (hH : H.ok) {sz : Nat} {v : V} {r : Option AV} (hv : v.val r) {k : V → FR} (hk : ∀ a ys, r = some a → elemsOf H.heap sz a = some ys.cl → Agr (k ys) q) : Agr (elZ H sz v k) q := by
  refine slcK'_ok (P := fun r => Agr r q) hv (sK_ok (P := fun r => Agr r q) hv q.bad fun l n hs => ?_) (fun nl c hc => ifB_ok (P := fun r => Agr r q) q.bad fun ha => hk _ c hc ?_) (fun hc => hk _ .nil hc rfl) (fun id ver lo len hc => arK_ok (P := fun r => Agr r q) q.bad _ hH fun nl z c hz => ?_)
  · rw [ifB_beq]
    split
    · rename_i h1
      refine hk _ _ hs ?_
      simp only [elemsOf, h1, if_true, V.cl, List.append_nil, up8_eq]
    · exact q.bad
  · simp only [elemsOf, allC_ok sz c ha, if_true]
  · rw [ifB_beq, ifB_beq, ifB_ble]
    by_cases h1 : z = sz
    · by_cases h2 : c.cl.length = ver
      · by_cases h3 : Nat.add lo len ≤ ver
        · rw [if_pos h1, if_pos h2, if_pos h3]
          refine hk _ _ hc ?_
          have h4 : H.heap.get id = some (.arr nl z c.cl) := hz
          have h3' : lo + len ≤ ver := h3
          simp only [elemsOf, h4, h1, h2, h3', and_self, if_true, takeC_eq, dropC_eq]
        · rw [if_pos h1, if_pos h2, if_neg h3]; exact q.bad
      · rw [if_pos h1, if_neg h2]; exact q.bad
    · rw [if_neg h1]; exact q.bad
noncomputable def apZ (H : ZH) (sz : Nat) (u ys : V) (ny : Nat) (k : V → ZH → FR) : FR := slcK' u .bad
  (fun nl c => @Bool.rec (fun _ => FR) .bad (nilF (ifB (Nat.ble ny 1073741824) .bad (nwA H (Nat.beq ny 0) sz ny ys fun i H' => k (.ms i ny 0 ny) H')) c) nl)
  (@Nat.rec (fun _ => FR) (k .c0 H) (fun _ _ => ifB (Nat.ble ny 1073741824) .bad (nwA H false sz ny ys fun i H' => k (.ms i ny 0 ny) H')) ny)
  (fun id ver lo len => hK H fun nx ro bl => ifB (Nat.ble ro id) .bad (arK id .bad (fun n z l c => ifB (Nat.beq z sz) .bad (ifB (Nat.beq l ver) .bad (ifB (Nat.ble (Nat.add l ny) 1073741824) .bad
    (@Bool.rec (fun _ => FR)
      (ifB (Nat.ble (Nat.add (Nat.add lo len) ny) ver) .bad (k (.ms id ver lo (Nat.add len ny)) ⟨nx, ro, .arr id n z l (appC (appC (dropC c (Nat.add (Nat.add lo len) ny)) ys) (takeC c (Nat.add lo len))) (deB id bl)⟩))
      (k (.ms id (Nat.add ver ny) 0 (Nat.add len ny)) ⟨nx, ro, .arr id (ifB (Nat.beq ny 0) false n) z (Nat.add l ny) (appC ys c) (deB id bl)⟩)
      (ifB (Nat.beq lo 0) false (Nat.beq len ver)))))) bl))
theorem apZ_ok {q : Pr} {H : ZH} (hH : H.ok) {sz : Nat} {u ys : V} {r : Option AV} (hu : u.val r) {x : AV} (hys : elemsOf H.heap sz x = some ys.cl) {k : V → ZH → FR}
    (hk : ∀ b w H', H'.ok → r = some b → appS H.heap sz b x = some (w.av, H'.heap) → w.pv = some w.av → Agr (k w H') q) : Agr (apZ H sz u ys ys.cl.length k) q := by
  refine slcK'_ok (P := fun r => Agr r q) hu q.bad (fun nl c hc => ?_) (fun hc => ?_) (fun id ver lo len hc => ?_)
  · cases nl with
    | false => exact q.bad
    | true =>
      refine nilF_ok fun he => ?_
      rw [he] at hc
      rw [ifB_ble, nwA_eq]
      split
      · rename_i h1
        refine hk _ (.ms H.next ys.cl.length 0 ys.cl.length) _ ⟨rfl, hH⟩ hc ?_ rfl
        have h1' : ys.cl.length ≤ mostLen := h1
        simp only [appS, hys, h1', if_true, heap_new_arr, beq_dec]
        have : decide (ys.cl.length = 0) = ys.cl.isEmpty := by cases ys.cl <;> simp
        rw [this]; rfl
      · exact q.bad
  · have e : ∀ k1 k2 : FR, (ys.cl.length = 0 → Agr k1 q) → (ys.cl.length ≠ 0 → Agr k2 q) → Agr (@Nat.rec (fun _ => FR) k1 (fun _ _ => k2) ys.cl.length) q := fun k1 k2 h1 h2 => by
      cases hn : ys.cl.length with
      | zero => exact h1 hn
      | succ n => exact h2 (by omega)
    refine e _ _ (fun h0 => hk _ .c0 H hH hc ?_ rfl) (fun h0 => ?_)
    · have h1 : ys.cl = [] := List.eq_nil_of_length_eq_zero h0
      rw [h1] at hys
      simp only [appS, hys, List.length_nil, Nat.zero_le, if_true, List.isEmpty_nil]; rfl
    · rw [ifB_ble, nwA_eq]
      split
      · rename_i h1
        refine hk _ (.ms H.next ys.cl.length 0 ys.cl.length) _ ⟨rfl, hH⟩ hc ?_ rfl
        have h1' : ys.cl.length ≤ mostLen := h1
        have h2 : ys.cl.isEmpty = false := by cases hy : ys.cl <;> simp [hy] at h0 ⊢
        simp only [appS, hys, h1', if_true, h2, Bool.false_eq_true, if_false, heap_new_arr]; rfl
      · exact q.bad
  · rw [hK_eq, ifB_ble]
    split
    · rename_i h0
      have h0' : ¬ id < H.heap.ro := Nat.not_lt.2 h0
      refine arK_ok (P := fun r => Agr r q) q.bad _ hH fun n z c hz => ?_
      rw [ifB_beq, ifB_beq, ifB_ble]
      have h4 : H.heap.get id = some (.arr n z c.cl) := hz
      by_cases h1 : z = sz
      · by_cases h2 : c.cl.length = ver
        · by_cases h3 : Nat.add c.cl.length ys.cl.length ≤ 1073741824
          · rw [if_pos h1, if_pos h2, if_pos h3]
            have h3' : c.cl.length + ys.cl.length ≤ mostLen := h3
            cases hb : ifB (Nat.beq lo 0) false (Nat.beq len ver) with
            | false =>
              have hb' : ¬ (lo = 0 ∧ len = ver) := fun hh => by
                rw [ifB_beq, if_pos hh.1, hh.2, beq_dec] at hb; simp at hb
              show Agr (ifB (Nat.ble (Nat.add (Nat.add lo len) ys.cl.length) ver) .bad _) q
              rw [ifB_ble]
              split
              · rename_i h5
                have h5' : lo + len + ys.cl.length ≤ ver := h5
                refine hk _ (.ms id ver lo (Nat.add len ys.cl.length)) _ ⟨?_, deB_ok id _ hH⟩ hc ?_ rfl
                · rw [appC_eq, appC_eq, takeC_eq, dropC_eq]
                  simp only [List.length_append, List.length_take, List.length_drop]
                  show _ = min (lo + len) c.cl.length + (ys.cl.length + (c.cl.length - (lo + len + ys.cl.length)))
                  omega
                · simp only [appS, hys, h0', if_false, h4, h1, h2, true_and]
                  rw [← h2, if_pos h3', h2, if_neg hb', if_pos h5', heap_arr, appC_eq, appC_eq, takeC_eq, dropC_eq, List.append_assoc]; rfl
              · exact q.bad
            | true =>
              have hb' : lo = 0 ∧ len = ver := by
                rw [ifB_beq] at hb
                split at hb
                · rename_i hlo; exact ⟨hlo, Nat.eq_of_beq_eq_true hb⟩
                · cases hb
              refine hk _ (.ms id (Nat.add ver ys.cl.length) 0 (Nat.add len ys.cl.length)) _ ⟨?_, deB_ok id _ hH⟩ hc ?_ rfl
              · rw [appC_eq, List.length_append]; rfl
              · simp only [appS, hys, h0', if_false, h4, h1, h2, true_and]
                rw [← h2, if_pos h3', h2, if_pos hb', heap_arr, appC_eq]
                have : ifB (Nat.beq ys.cl.length 0) false n = (n && ys.cl.isEmpty) := by
                  rw [ifB_beq]
                  cases hy : ys.cl <;> simp
                rw [this]; rfl
          · rw [if_pos h1, if_pos h2, if_neg h3]; exact q.bad
        · rw [if_pos h1, if_neg h2]; exact q.bad
      · rw [if_neg h1]; exact q.bad
    · exact q.bad
noncomputable def oApp (d : Option Nat) (sz : Nat) (b v : Opd) : Oc S (dS d S) J := (fun _ κ _ e H => elZ H sz ((opd S v).run e) fun ys => apZ H sz ((opd S b).run e) ys (lenC ys) fun w H' => κ (setD d e w) H')
theorem oApp_ok (d : Option Nat) (sz : Nat) (b v : Opd) : OcOK d (.app sz b v) (oApp (S := S) (J := J) d sz b v) := fun cl c hcl e x H κ kr q hH h hg _ => by
  unfold oApp
  refine elZ_ok hH (opd_val h v) fun a ys ha hys => ?_
  rw [lenC_eq]
  refine apZ_ok hH (opd_val h b) hys fun u w H' hH' hu hr hp => hg _ (setDst d (.v w.av) x) H' hH' ?_ (rel_setD h d (pv_den hp))
  simp only [opS, hu, ha, hr]
noncomputable def oApz (d : Option Nat) (sz : Nat) (z : AV) (b n : Opd) : Oc S (dS d S) J := (fun _ κ _ e H => slcK' ((opd S b).run e) .bad (fun nl c => @Bool.rec (fun _ => FR) .bad (nilF (iK ((opd S n).run e) .bad fun m =>
  ifB (Nat.ble 9223372036854775809 m) .bad (ifB (Nat.ble (Nat.sub m 9223372036854775808) 1073741824) .bad (ifB (Nat.beq z.cells.length sz) .bad
    (nwA H false sz (Nat.sub m 9223372036854775808) (repC (Nat.sub m 9223372036854775808) (ofAV z)) fun i H' => κ (setD d e (.ms i (Nat.sub m 9223372036854775808) 0 (Nat.sub m 9223372036854775808))) H')))) c) nl) .bad fun _ _ _ _ => .bad)
theorem oApz_ok (d : Option Nat) (sz : Nat) (z : AV) (b n : Opd) : OcOK d (.apz sz z b n) (oApz (S := S) (J := J) d sz z b n) := fun cl c hcl e x H κ kr q hH h hg _ => by
  unfold oApz
  refine slcK'_ok (P := fun r => Agr r q) (opd_val h b) q.bad (fun nl c' hc => ?_) (fun _ => q.bad) (fun _ _ _ _ _ => q.bad)
  cases nl with
  | false => exact q.bad
  | true =>
    refine nilF_ok fun he => ?_
    rw [he] at hc
    refine iK_ok (P := fun r => Agr r q) (opd_val h n) q.bad fun m hm => ?_
    rw [ifB_ble, ifB_ble, ifB_beq]
    split
    · rename_i h1
      split
      · rename_i h2
        split
        · rename_i h3
          rw [nwA_eq]
          obtain ⟨u, rfl⟩ := Nat.exists_eq_add_of_le h1
          have e1 : Nat.sub (9223372036854775809 + u) 9223372036854775808 = u + 1 := by show 9223372036854775809 + u - 9223372036854775808 = _; omega
          rw [e1] at h2 ⊢
          have e2 : (((9223372036854775809 + u : Nat) : Int) - 9223372036854775808) = ((u + 1 : Nat) : Int) := by omega
          rw [e2] at hm
          refine hg _ (setDst d (.v (.ms H.next (u + 1) 0 (u + 1))) x) _ ⟨by rw [repC_eq, List.length_replicate], hH⟩ ?_ (rel_setD h d rfl)
          have h2' : u + 1 ≤ 1073741824 := h2
          simp only [opS, hc, hm]
          rw [if_pos ⟨by omega, by simp only [mostLen]; omega, h3⟩, heap_new_arr, repC_eq, (ofAV_pv z).2, Int.toNat_natCast]; rfl
        · exact q.bad
      · exact q.bad
    · exact q.bad
noncomputable def oMks (d : Option Nat) (sz : Nat) (z : AV) (n : Opd) : Oc S (dS d S) J := (fun _ κ _ e H => nnZ ((opd S n).run e) .bad fun m => ifB (Nat.ble m 1073741824) .bad (ifB (Nat.beq z.cells.length sz) .bad
    (nwA H false sz m (repC m (ofAV z)) fun i H' => κ (setD d e (.ms i m 0 m)) H')))
theorem oMks_ok (d : Option Nat) (sz : Nat) (z : AV) (n : Opd) : OcOK d (.mks sz z n) (oMks (S := S) (J := J) d sz z n) := fun cl c hcl e x H κ kr q hH h hg _ => by
  unfold oMks
  refine nnZ_ok (opd_val h n) q.bad fun k m hm => ?_
  rw [ifB_ble, ifB_beq]
  split
  · rename_i h2
    split
    · rename_i h3
      rw [nwA_eq]
      refine hg _ (setDst d (.v (.ms H.next m 0 m)) x) _ ⟨by rw [repC_eq, List.length_replicate], hH⟩ ?_ (rel_setD h d rfl)
      have h2' : m ≤ 1073741824 := h2
      simp only [opS, hm]
      rw [if_pos ⟨by omega, by simp only [mostLen]; omega, h3⟩, heap_new_arr, repC_eq, (ofAV_pv z).2, Int.toNat_natCast]; rfl
    · exact q.bad
  · exact q.bad
noncomputable def oMkm (d : Option Nat) (z : AV) (n : Nat) (ps : List (Nat × Opd)) : Oc S (dS d S) J := (fun _ κ _ e H => (mkC S z.cells.length n ps).run e (repC n (ofAV z)) fun c => nwA H false z.cells.length (lenC c) c fun i H' => κ (setD d e (.ms i (lenC c) 0 (lenC c))) H')
theorem oMkm_ok (d : Option Nat) (z : AV) (n : Nat) (ps : List (Nat × Opd)) : OcOK d (.mkm z n ps) (oMkm (S := S) (J := J) d z n ps) := fun cl c hcl e x H κ kr q hH h hg _ => by
  unfold oMkm
  have hc : (repC n (ofAV z)).cl = List.replicate n z := by rw [repC_eq, (ofAV_pv z).2]
  refine mkC_ok h ps (fun y hy => ?_) (by rw [hc, List.length_replicate]) fun w vs hvs hw => ?_
  · rw [hc] at hy; rw [List.eq_of_mem_replicate hy]
  · rw [hc] at hw
    rw [nwA_eq, lenC_eq]
    refine hg _ (setDst d (.v (.ms H.next w.cl.length 0 w.cl.length)) x) _ ⟨rfl, hH⟩ ?_ (rel_setD h d rfl)
    simp only [opS, hvs, hw, heap_new_arr]; rfl
noncomputable def oCpy (d : Option Nat) (sz : Nat) (a b : Opd) : Oc S (dS d S) J := (fun _ κ _ e H => slcK' ((opd S a).run e) .bad (fun _ _ => .bad) .bad fun id ver lo len => hK H fun nx ro bl => ifB (Nat.ble ro id) .bad (elZ H sz ((opd S b).run e) fun ys => arK id .bad (fun n z l c =>
  ifB (Nat.beq z sz) .bad (ifB (Nat.beq l ver) .bad (ifB (Nat.ble (Nat.add lo len) ver) .bad
    (κ (setD d e (.i (Nat.add (zMin len (lenC ys)) 9223372036854775808))) ⟨nx, ro, .arr id n z l (appC (appC (dropC c (Nat.add lo (zMin len (lenC ys)))) (takeC ys (zMin len (lenC ys)))) (takeC c lo)) (deB id bl)⟩)))) bl))
theorem oCpy_ok (d : Option Nat) (sz : Nat) (a b : Opd) : OcOK d (.cpy sz a b) (oCpy (S := S) (J := J) d sz a b) := fun cl c hcl e x H κ kr q hH h hg _ => by
  unfold oCpy
  refine slcK'_ok (P := fun r => Agr r q) (opd_val h a) q.bad (fun _ _ _ => q.bad) (fun _ => q.bad) (fun id ver lo len hc => ?_)
  rw [hK_eq, ifB_ble]
  split
  · rename_i h0
    have h0' : ¬ id < H.heap.ro := Nat.not_lt.2 h0
    refine elZ_ok hH (opd_val h b) fun y ys hy hys => arK_ok (P := fun r => Agr r q) q.bad _ hH fun n z c' hz => ?_
    have h4 : H.heap.get id = some (.arr n z c'.cl) := hz
    rw [ifB_beq, ifB_beq, ifB_ble, zMin_eq, lenC_eq]
    by_cases h1 : z = sz
    · by_cases h2 : c'.cl.length = ver
      · by_cases h3 : Nat.add lo len ≤ ver
        · rw [if_pos h1, if_pos h2, if_pos h3]
          have h3' : lo + len ≤ ver := h3
          refine hg _ (setDst d (.v (i64 (min len ys.cl.length : Nat))) x) _ ⟨?_, deB_ok id _ hH⟩ ?_ (rel_setD h d ?_)
          · rw [appC_eq, appC_eq, takeC_eq, takeC_eq, dropC_eq]
            simp only [List.length_append, List.length_take, List.length_drop]
            show _ = min lo c'.cl.length + (min (min len ys.cl.length) ys.cl.length + (c'.cl.length - (lo + min len ys.cl.length)))
            omega
          · simp only [opS, hc, hy, h0', if_false, hys, h4, h1, h2, h3', and_self, if_true]
            rw [heap_arr, appC_eq, appC_eq, takeC_eq, takeC_eq, dropC_eq, List.append_assoc]; rfl
          · show Sl.v _ = Sl.v (V.av _); rw [toI]
        · rw [if_pos h1, if_pos h2, if_neg h3]; exact q.bad
      · rw [if_pos h1, if_neg h2]; exact q.bad
    · rw [if_neg h1]; exact q.bad
  · exact q.bad
noncomputable def oClr (d : Option Nat) (sz : Nat) (z : AV) (a : Opd) : Oc S (dS d S) J := (fun _ κ _ e H => slcK' ((opd S a).run e) .bad (fun _ _ => .bad) .bad fun id ver lo len => hK H fun nx ro bl => ifB (Nat.ble ro id) .bad (arK id .bad (fun n w l c =>
  ifB (Nat.beq w sz) .bad (ifB (Nat.beq z.cells.length sz) .bad (ifB (Nat.beq l ver) .bad (ifB (Nat.ble (Nat.add lo len) ver) .bad
    (κ (setD d e (.tu .nil)) ⟨nx, ro, .arr id n w l (appC (appC (dropC c (Nat.add lo len)) (repC len (ofAV z))) (takeC c lo)) (deB id bl)⟩))))) bl))
theorem oClr_ok (d : Option Nat) (sz : Nat) (z : AV) (a : Opd) : OcOK d (.clr sz z a) (oClr (S := S) (J := J) d sz z a) := fun cl c hcl e x H κ kr q hH h hg _ => by
  unfold oClr
  refine slcK'_ok (P := fun r => Agr r q) (opd_val h a) q.bad (fun _ _ _ => q.bad) (fun _ => q.bad) (fun id ver lo len hc => ?_)
  rw [hK_eq, ifB_ble]
  split
  · rename_i h0
    have h0' : ¬ id < H.heap.ro := Nat.not_lt.2 h0
    refine arK_ok (P := fun r => Agr r q) q.bad _ hH fun n w c' hz => ?_
    have h4 : H.heap.get id = some (.arr n w c'.cl) := hz
    rw [ifB_beq, ifB_beq, ifB_beq, ifB_ble]
    by_cases h1 : w = sz
    · by_cases h5 : z.cells.length = sz
      · by_cases h2 : c'.cl.length = ver
        · by_cases h3 : Nat.add lo len ≤ ver
          · rw [if_pos h1, if_pos h5, if_pos h2, if_pos h3]
            have h3' : lo + len ≤ ver := h3
            refine hg _ (setDst d (.v (.tup [])) x) _ ⟨?_, deB_ok id _ hH⟩ ?_ (rel_setD h d rfl)
            · rw [appC_eq, appC_eq, takeC_eq, repC_eq, dropC_eq]
              simp only [List.length_append, List.length_take, List.length_drop, List.length_replicate]
              show _ = min lo c'.cl.length + (len + (c'.cl.length - (lo + len)))
              omega
            · simp only [opS, hc, h0', if_false, h4, h1, h5, h2, h3', and_self, if_true]
              rw [heap_arr, appC_eq, appC_eq, takeC_eq, repC_eq, dropC_eq, List.append_assoc, (ofAV_pv z).2]; rfl
          · rw [if_pos h1, if_pos h5, if_pos h2, if_neg h3]; exact q.bad
        · rw [if_pos h1, if_pos h5, if_neg h2]; exact q.bad
      · rw [if_pos h1, if_neg h5]; exact q.bad
    · rw [if_neg h1]; exact q.bad
  · exact q.bad
noncomputable def oThaw (sz s : Nat) : Oc S (s :: S) J := (fun _ κ _ e H => slcK' ((acc S s).run e) .bad (fun nl c => @Bool.rec (fun _ => FR) .bad (nilF (nwA H true sz 0 .nil fun i H' => κ (E.cons s (.ms i 0 0 0) e) H') c) nl) .bad fun _ _ _ _ => .bad)
theorem acc_val {e : E S} {x : Env} (h : Rel S e x) (s : Nat) : ((acc S s).run e).val (x.av (.t s)) := opd_val h (.t s)
theorem oThaw_ok (d : Option Nat) (sz s : Nat) : OcOK d (.thaw sz s) (oThaw (S := S) (J := J) sz s) := fun cl c hcl e x H κ kr q hH h hg _ => by
  unfold oThaw
  have hd := get_den h s
  revert hd
  show _ → Agr (slcK' ((acc S s).run e) .bad _ .bad _) q
  generalize (acc S s).run e = v
  intro hd
  cases v <;> try exact q.bad
  rename_i nl c'
  cases nl with
  | false => exact q.bad
  | true =>
    refine nilF_ok fun he => ?_
    rw [nwA_eq]
    have hd' : x.get s = .v (.list true []) := by have h1 : x.get s = .v (.list true c'.cl) := hd; rw [he] at h1; exact h1
    refine hg _ ((s, .v (.ms H.next 0 0 0)) :: x) _ ⟨rfl, hH⟩ ?_ (rel_cons h s rfl)
    simp only [opS, hd', heap_new_arr]; rfl

/-! ### arrays that become slices that are written no more -/
noncomputable def fcd (f : Fz) : Nat := @Fz.casesOn (fun _ => Nat) f 0 (fun _ => 1) (fun _ _ _ => 2)
noncomputable def fzA (cd : Nat) (f : ZH → V → (V → ZH → FR) → FR) : V → ZH → (V → ZH → FR) → FR := clRec (fun H k => k .nil H) (fun h _ ih H k => f H h fun y H1 => ih H1 fun ys H2 => k (.one y ys) H2) (fun q l n _ ih H k => ifB (Nat.beq cd 1) .bad (ih H fun ys H2 => k (.run q l n ys) H2))
noncomputable def fzS (cd : Nat) (ih : ZH → V → (V → ZH → FR) → FR) (H : ZH) (v : V) (k : V → ZH → FR) : FR := slcK' v .bad (fun n c => k (.li n c) H) (k (.li false .nil) H)
  fun id ver lo len => hK H fun nx ro bl => ifB (Nat.ble ro id) .bad (arK id .bad (fun n _ l c => ifB (Nat.beq l ver) .bad (ifB (Nat.ble (Nat.add lo len) ver) .bad
    (@Nat.rec (fun _ => FR) (k (.li n (takeC (dropC c lo) len)) ⟨nx, ro, deB id bl⟩) (fun _ _ => fzA cd ih (takeC (dropC c lo) len) ⟨nx, ro, deB id bl⟩ fun ys H' => k (.li n ys) H') cd))) bl)
noncomputable def fzZ : Fz → ZH → V → (V → ZH → FR) → FR := @Fz.rec (fun _ => ZH → V → (V → ZH → FR) → FR) (fun H v k => vK v .bad (k v H)) (fun f ih => fzS (fcd f) ih)
  (fun i _ _ ihf ihr H v k => agK v .bad fun c => nthC .bad (fun y => ihf H y fun y' H1 => onK y .bad (onK y' .bad (ihr H1 (.ag (setC y' c i)) k))) c i)
def FzOK (q : Pr) (f : Fz) : Prop := ∀ (H : ZH) (v : V) (k : V → ZH → FR), H.ok → (∀ (w : V) H', H'.ok → fzV f H.heap v.av = some (w.av, H'.heap) → w.pv = some w.av → Agr (k w H') q) → Agr (fzZ f H v k) q
theorem fz_digs {f : Fz} {q : Nat} : ∀ (l n : Nat) (H : Heap) (t : List AV) (r : List AV) (H' : Heap), fzAll (fzV (.sl f)) H t = some (r, H') → fzAll (fzV (.sl f)) H (digs q l n ++ t) = some (digs q l n ++ r, H')
  | 0, _, _, _, _, _, h => h
  | l + 1, n, H, t, r, H', h => by
    have ih := fz_digs (q := q) l (n / 18446744073709551616) H t r H' h
    have e : fzV (.sl f) H (scal q (n % 18446744073709551616)) = some (scal q (n % 18446744073709551616), H) := by
      match q with
      | 0 => simp only [scal, fzV]
      | 1 => simp only [scal, fzV]
      | q + 2 => simp only [scal, fzV]
    simp only [digs, List.cons_append, fzAll, e, ih]
theorem fzA_ok {q : Pr} {f : Fz} (hf : FzOK q f) : ∀ (c : V) (H : ZH) (k : V → ZH → FR), H.ok → (∀ (ys : V) H', H'.ok → fzAll (fzV f) H.heap c.cl = some (ys.cl, H'.heap) → Agr (k ys H') q) → Agr (fzA (fcd f) (fzZ f) c H k) q := by
  intro c
  refine cl_cases (P := fun c => ∀ (H : ZH) (k : V → ZH → FR), H.ok → (∀ (ys : V) H', H'.ok → fzAll (fzV f) H.heap c.cl = some (ys.cl, H'.heap) → Agr (k ys H') q) → Agr (fzA (fcd f) (fzZ f) c H k) q) (fun h t ih H k hH hk => ?_) (fun k0 l n t ih H k hH hk => ?_) (fun v h0 h1 H k hH hk => ?_) c
  · refine hf H h _ hH fun w H1 hH1 hw hp => ih H1 _ hH1 fun ys H2 hH2 hys => hk _ H2 hH2 ?_
    simp only [V.cl, fzAll, hw, hys]
  · show Agr (ifB (Nat.beq (fcd f) 1) .bad (fzA (fcd f) (fzZ f) t H fun ys H2 => k (.run k0 l n ys) H2)) q
    rw [ifB_beq]
    split
    · rename_i h1
      refine ih H _ hH fun ys H2 hH2 hys => hk _ H2 hH2 ?_
      cases f with
      | no => cases h1
      | ag i f r => cases h1
      | sl f => simp only [V.cl]; exact fz_digs l n _ _ _ _ hys
    · exact q.bad
  · have : fzA (fcd f) (fzZ f) v H k = k .nil H := congrFun (congrFun (h0 (fun (H : ZH) (k : V → ZH → FR) => k .nil H) _ _) H) k
    rw [this]
    refine hk .nil H hH ?_
    rw [h1]; rfl
theorem fzZ_ok (q : Pr) : ∀ f : Fz, FzOK q f
  | .no => fun H v k hH hk => vK_ok (P := fun r => Agr r q) q.bad fun hp => hk v H hH rfl hp
  | .sl f => fun H v k hH hk => by
    have hv : v.val v.pv := fun a ha => ha
    refine slcK'_ok (P := fun r => Agr r q) hv q.bad (fun n c hc => hk (.li n c) H hH ?_ rfl) (fun hc => hk (.li false .nil) H hH ?_ rfl) (fun id ver lo len hc => ?_)
    · rw [(V.pv_sl hc).2.1]; simp only [fzV]; rfl
    · rw [(V.pv_sl hc).2.1]; simp only [fzV]; rfl
    · rw [hK_eq, ifB_ble]
      split
      · rename_i h0
        have h0' : ¬ id < H.heap.ro := Nat.not_lt.2 h0
        refine arK_ok (P := fun r => Agr r q) q.bad _ hH fun n z c hz => ?_
        have h4 : H.heap.get id = some (.arr n z c.cl) := hz
        have hH1 : ZH.ok ⟨H.next, H.ro, deB id H.bl⟩ := deB_ok id _ hH
        rw [ifB_beq, ifB_ble]
        by_cases h2 : c.cl.length = ver
        · by_cases h3 : Nat.add lo len ≤ ver
          · rw [if_pos h2, if_pos h3]
            have h3' : lo + len ≤ ver := h3
            have hel : (takeC (dropC c lo) len).cl = (c.cl.drop lo).take len := by rw [takeC_eq, dropC_eq]
            have deep : ∀ f', f' = f → f' ≠ .no → Agr (fzA (fcd f) (fzZ f) (takeC (dropC c lo) len) ⟨H.next, H.ro, deB id H.bl⟩ fun ys H' => k (.li n ys) H') q := fun f' hf' hn => by
              refine fzA_ok (fzZ_ok q f) _ _ _ hH1 fun ys H' hH' hys => hk (.li n ys) H' hH' ?_ rfl
              rw [(V.pv_sl hc).2.1]
              rw [hel, heap_del] at hys
              subst hf'
              simp only [fzV, h0', if_false, h4, h2, h3', and_self, if_true, hys]
              cases f' with
              | no => exact absurd rfl hn
              | _ => rfl
            cases f with
            | no =>
              refine hk (.li n (takeC (dropC c lo) len)) _ hH1 ?_ rfl
              rw [(V.pv_sl hc).2.1]
              simp only [fzV, h0', if_false, h4, h2, h3', and_self, if_true, heap_del]
              show _ = some (AV.list n (takeC (dropC c lo) len).cl, _)
              rw [hel]
            | sl f => exact deep _ rfl (fun h => by cases h)
            | ag i f r => exact deep _ rfl (fun h => by cases h)
          · rw [if_pos h2, if_neg h3]; exact q.bad
        · rw [if_neg h2]; exact q.bad
      · exact q.bad
  | .ag i f r => fun H v k hH hk => by
    have hv : v.val v.pv := fun a ha => ha
    refine agK_ok (P := fun r => Agr r q) hv q.bad fun c hc => nthC_ok (P := fun r => Agr r q) q.bad c i fun y hy => fzZ_ok q f H y _ hH fun w H1 hH1 hw hp => onK_ok (P := fun r => Agr r q) q.bad fun _ h1 => onK_ok (P := fun r => Agr r q) q.bad fun _ h2 => fzZ_ok q r H1 _ _ hH1 fun w2 H2 hH2 hw2 hp2 => hk w2 H2 hH2 ?_ hp2
    rw [(V.pv_sl hc).2.1]
    simp only [V.av, setC_eq] at hw2
    simp only [fzV, hy, hw, h1, h2, Bool.and_self, if_true, hw2]
noncomputable def oFrz (f : Fz) (s : Nat) : Oc S (s :: S) J := (fun _ κ _ e H => frK ((acc S s).run e) (fun v => fzZ f H v fun y H' => κ (E.cons s y e) H') (fun c => fzZ f H (.ag c) fun y H' => agK y .bad fun ds => κ (E.cons s (.lv ds) e) H'))
where frK (v : V) (fv : V → FR) (fl : V → FR) : FR := lvK' v (vK v .bad (fv v)) fl
theorem oFrz_ok (d : Option Nat) (f : Fz) (s : Nat) : OcOK d (.frz f s) (oFrz (S := S) (J := J) f s) := fun cl c hcl e x H κ kr q hH h hg _ => by
  have hd := get_den h s
  unfold oFrz
  revert hd
  generalize (acc S s).run e = v
  intro hd
  have plain : v.pv = some v.av → Agr (fzZ f H v fun y H' => κ (E.cons s y e) H') q := fun hp => by
    have hs := (V.pv_sl hp).2.2.1 _ hd
    refine fzZ_ok q f H v _ hH fun w H' hH' hw hpw => hg _ ((s, .v w.av) :: x) H' hH' ?_ (rel_cons h s (pv_den hpw))
    simp only [opS, hs, hw]
  have vcase : Agr (vK v .bad (fzZ f H v fun y H' => κ (E.cons s y e) H')) q := vK_ok (P := fun r => Agr r q) q.bad plain
  cases v with
  | lv c' =>
    have hs : x.get s = .lv c'.cl := hd
    refine fzZ_ok q f H (.ag c') _ hH fun w H' hH' hw hpw => agK_ok (P := fun r => Agr r q) (r := w.pv) (fun a ha => ha) q.bad fun ds hds => hg _ ((s, .lv ds.cl) :: x) H' hH' ?_ (rel_cons h s rfl)
    have hw' : w.av = .agg ds.cl := (V.pv_sl hds).2.1
    rw [hw'] at hw
    have hw2 : fzV f H.heap (.agg c'.cl) = some (.agg ds.cl, H'.heap) := hw
    simp only [opS, hs, hw2]
  | _ => exact vcase

/-! ### calls -/
noncomputable def reK (d : Option Nat) (κ : E (dS d S) → ZH → FR) (kr : KR J) (e : E S) (r : FR) : FR := @FR.rec (fun _ => FR) (fun v H' => κ (setD d e v) H') (fun v H' => kr.p v ((nrmC S J).run e) H') .bad r
theorem reK_ok {d : Option Nat} {κ : E (dS d S) → ZH → FR} {kr : KR J} {e : E S} {x : Env} (h : Rel S e x) {q : Pr} {r : FR} {cr : Option CRes} (hr : Agf r cr) {o : Option Out}
    (ho : ∀ v H', cr = some (.ret v H') → o = some (.go .nrm (setDst d (.v v) x) H')) (ho2 : ∀ v H', cr = some (.pan v H') → o = some (.pan v x H')) (hg : Go1 κ q o) (hp : Pan1 kr q o) : Agr (reK d κ kr e r) q := by
  cases r with
  | ret v H' => exact hg _ _ H' hr.2.1 (ho _ _ hr.1) (rel_setD h d (pv_den hr.2.2))
  | pan v H' => exact hp v _ x H' hr.2.1 (ho2 _ _ hr.1) hr.2.2 (rel_nrm h J)
  | bad => exact q.bad
noncomputable def oCall (d : Option Nat) (f : Nat) (args : List Opd) : Oc S (dS d S) J := (fun cl κ kr e H => (argC S args).run e fun w => reK d κ kr e (cl f w H))
theorem oCall_ok (d : Option Nat) (f : Nat) (args : List Opd) : OcOK d (.call f args) (oCall (S := S) (J := J) d f args) := fun cl c hcl e x H κ kr q hH h hg hp => by
  unfold oCall
  refine argC_ok h args fun w vs hvs hw => reK_ok h (hcl f w H hH) (fun v H' hr => ?_) (fun v H' hr => ?_) hg hp
  · rw [hw] at hr; simp only [opS, hvs, hr]
  · rw [hw] at hr; simp only [opS, hvs, hr]
noncomputable def saK {S' : List Nat} (e : E S') (H : ZH) (c : Nat × Nat × Bool × Opd) (k : FR) : FR := adK 0 ((opd S' c.2.2.2).run e) .bad (fun _ _ => .bad)
  (fun y => vK ((acc S' c.1).run e) .bad (ldZ S' c.2.1 c.2.2.1 0 (.im y) e H fun z => ifB (AV.same z.av ((acc S' c.1).run e).av) .bad k))
  (fun i o => vK ((acc S' c.1).run e) .bad (ldZ S' c.2.1 c.2.2.1 0 (.pt i o) e H fun z => ifB (AV.same z.av ((acc S' c.1).run e).av) .bad k))
  (fun i v j o => vK ((acc S' c.1).run e) .bad (ldZ S' c.2.1 c.2.2.1 0 (.ap i v j o) e H fun z => ifB (AV.same z.av ((acc S' c.1).run e).av) .bad k))
theorem saK_ok {S' : List Nat} {e : E S'} {x : Env} (h : Rel S' e x) {H : ZH} (hH : H.ok) {c : Nat × Nat × Bool × Opd} {k : FR} {q : Pr} (hk : sameLd x H.heap c = true → Agr k q) : Agr (saK e H c k) q := by
  obtain ⟨s, sz, ag, o⟩ := c
  have key : ∀ (y : V) (a : AV), x.sl o = .v a → y.pv = some a → Agr (vK ((acc S' s).run e) .bad (ldZ S' sz ag 0 y e H fun z => ifB (AV.same z.av ((acc S' s).run e).av) .bad k)) q := fun y a ha hy => by
    refine vK_ok (P := fun r => Agr r q) q.bad fun hp => ldZ_ok (s := .v a) h hH ?_ fun z hz _ => ifB_ok (P := fun r => Agr r q) q.bad fun hs => hk ?_
    · have := (V.pv_sl hy).1
      cases y <;> first | trivial | (simp only [V.dle, V.sle, this]) | cases hy
    · have h1 := (V.pv_sl hp).2.2.1 _ (get_den h s)
      simp only [sameLd, ha, h1, hz, hs]
  have hd := opd_dle h o
  unfold saK
  simp only
  revert hd
  generalize (opd S' o).run e = v
  intro hd
  cases v with
  | im y => exact key (.im y) _ hd rfl
  | pt i o => exact key (.pt i o) _ hd rfl
  | ap i w j o => exact key (.ap i w j o) _ hd rfl
  | _ => exact q.bad
noncomputable def sasK {S' : List Nat} (e : E S') (H : ZH) (k : FR) : List (Nat × Nat × Bool × Opd) → FR := @List.rec (Nat × Nat × Bool × Opd) (fun _ => FR) k (fun c _ ih => saK e H c ih)
theorem sasK_ok {S' : List Nat} {e : E S'} {x : Env} (h : Rel S' e x) {H : ZH} (hH : H.ok) {k : FR} {q : Pr} : ∀ (cs : List (Nat × Nat × Bool × Opd)), (cs.all (sameLd x H.heap) = true → Agr k q) → Agr (sasK e H k cs) q
  | [], hk => hk rfl
  | c :: cs, hk => saK_ok h hH fun h1 => sasK_ok h hH cs fun h2 => hk (by simp only [List.all_cons, h1, h2, Bool.and_self])
noncomputable def oCallc (d : Option Nat) (f : Nat) (args : List Opd) (cs : List (Nat × Nat × Bool × Opd)) : Oc S (dS d S) J := (fun cl κ _ e H => (argC S args).run e fun w => @FR.rec (fun _ => FR) (fun v H' => sasK (setD d e v) H' (κ (setD d e v) H') cs) (fun _ _ => .bad) .bad (cl f w H))
theorem oCallc_ok (d : Option Nat) (f : Nat) (args : List Opd) (cs : List (Nat × Nat × Bool × Opd)) : OcOK d (.callc f args cs) (oCallc (S := S) (J := J) d f args cs) := fun cl c hcl e x H κ kr q hH h hg hp => by
  unfold oCallc
  refine argC_ok h args fun w vs hvs hw => ?_
  have hr := hcl f w H hH
  revert hr
  generalize cl f w H = r
  intro hr
  cases r with
  | ret v H' =>
    have hrel := rel_setD h d (pv_den hr.2.2)
    refine sasK_ok hrel hr.2.1 cs fun hall => hg _ _ H' hr.2.1 ?_ hrel
    have h1 := hr.1
    rw [hw] at h1
    simp only [opS, hvs, h1, hall, if_true]
  | pan v H' => exact q.bad
  | bad => exact q.bad
noncomputable def oCallv (d : Option Nat) (f : Opd) (args : List Opd) : Oc S (dS d S) J := (fun cl κ kr e H => fnK' ((opd S f).run e) .bad fun g cap => (argC S args).run e fun w => reK d κ kr e (cl g (appC cap w) H))
theorem oCallv_ok (d : Option Nat) (f : Opd) (args : List Opd) : OcOK d (.callv f args) (oCallv (S := S) (J := J) d f args) := fun cl c hcl e x H κ kr q hH h hg hp => by
  unfold oCallv
  refine fnK'_ok (P := fun r => Agr r q) (opd_val h f) q.bad fun g cap hf => argC_ok h args fun w vs hvs hw => reK_ok h (hcl g (appC cap w) H hH) (fun v H' hr => ?_) (fun v H' hr => ?_) hg hp
  · rw [appC_eq, hw] at hr; simp only [opS, hf, hvs, hr]
  · rw [appC_eq, hw] at hr; simp only [opS, hf, hvs, hr]
noncomputable def oPan (v : Opd) : Oc S S J := (fun _ _ kr e H => fcK ((opd S v).run e) .bad (fun t y => kr.p (.fc t y) ((nrmC S J).run e) H) .bad)
theorem oPan_ok (d : Option Nat) (v : Opd) : OcOK d (.pan v) (oPan (S := S) (J := J) v) := fun cl c hcl e x H κ kr q hH h hg hp => by
  unfold oPan
  refine fcK_ok (P := fun r => Agr r q) (opd_val h v) q.bad (fun t y hy => hp (.fc t y) _ x H hH ?_ rfl (rel_nrm h J)) (fun _ => q.bad)
  simp only [opS, hy]; rfl
noncomputable def oBad (S S' J : List Nat) : Oc S S' J := (fun _ _ _ _ _ => .bad)
theorem oBad_ok (S S' J : List Nat) (d : Option Nat) (op : AOp) : OcOK d op (oBad S S' J) := fun _ _ _ _ _ _ _ _ q _ _ _ _ => q.bad
end

/-- the slots behind an operation -/
def outS (i : AInstr) (S : List Nat) : List Nat := match i.op with
  | .st _ _ _ => S
  | .frz _ s => s :: S
  | .thaw _ s => s :: S
  | .pan _ => S
  | _ => dS i.dst S
section
variable {S J : List Nat}
noncomputable def oMkmp (d : Option Nat) : Oc S (dS d S) J := (fun _ κ _ e H => hK H fun nx ro bl => κ (setD d e (.x (.mp nx))) ⟨Nat.succ nx, ro, .mp nx .nil bl⟩)
theorem oMkmp_ok (d : Option Nat) : OcOK d .mkmp (oMkmp (S := S) (J := J) d) := fun cl c hcl e x H κ kr q hH h hg _ => by
  unfold oMkmp
  rw [hK_eq]
  refine hg _ (setDst d (.v (.mp H.next)) x) _ ⟨rfl, hH⟩ ?_ (rel_setD h d rfl)
  have := heap_new_mp H .nil
  show _ = some (Out.go .nrm _ (ZH.heap ⟨H.next + 1, H.ro, .mp H.next .nil H.bl⟩))
  rw [this]; rfl
noncomputable def oMpu (d : Option Nat) (n : Nat) (m k v : Opd) : Oc S (dS d S) J := (fun _ κ _ e H => mpK ((opd S m).run e) .bad fun id => koK n ((opd S k).run e) (vK ((opd S v).run e) .bad (vK ((opd S k).run e) .bad (hK H fun nx ro bl => ifB (Nat.ble ro id) .bad (mpB id .bad (fun c =>
  mfC n ((opd S k).run e) (κ (setD d e .un) ⟨nx, ro, .mp id (snC (.one ((opd S k).run e) (.one ((opd S v).run e) .nil)) c) (deB id bl)⟩)
    (fun j _ => κ (setD d e .un) ⟨nx, ro, .mp id (setC ((opd S v).run e) (setC ((opd S k).run e) c (Nat.mul 2 j)) (Nat.succ (Nat.mul 2 j))) (deB id bl)⟩) c 0 0) bl)))))
theorem oMpu_ok (d : Option Nat) (n : Nat) (m k v : Opd) : OcOK d (.mpu n m k v) (oMpu (S := S) (J := J) d n m k v) := fun cl c hcl e x H κ kr q hH h hg _ => by
  unfold oMpu
  refine mpK_ok (P := fun r => Agr r q) (opd_val h m) q.bad fun id hid => koK_ok (opd_val h k) fun y hy hko => vK_ok (P := fun r => Agr r q) q.bad fun hpv => vK_ok (P := fun r => Agr r q) q.bad fun hpk => ?_
  rw [hK_eq, ifB_ble]
  split
  · rename_i h0
    have h0' : H.heap.ro ≤ id := h0
    have hv := opd_val h v _ hpv
    have hk := opd_val h k _ hpk
    have hky : ((opd S k).run e).av = y := by rw [hk] at hy; exact Option.some.inj hy
    refine mpB_ok (P := fun r => Agr r q) q.bad _ hH fun c' he hc => (mfC_ok (x := y) (by rw [← hy]; exact opd_val h k) hko c' 0).1 fun r hr => ?_
    have hgt : H.heap.get id = some (.map (prs c'.cl)) := hc
    cases r with
    | none =>
      refine hg _ (setDst d .un x) _ ⟨?_, deB_ok id _ hH⟩ ?_ (rel_setD h d rfl)
      · rw [snC_eq]; simp only [V.cl, List.length_append, List.length_cons, List.length_nil]; omega
      · rw [heap_mp, snC_eq]
        simp only [V.cl]
        rw [prs_app _ _ _ he, hky]
        simp only [opS, hid, hy, hv, hko, h0', and_self, if_true, hgt, hr]
    | some p =>
      obtain ⟨j, z⟩ := p
      intro u hu hp
      refine hg _ (setDst d .un x) _ ⟨?_, deB_ok id _ hH⟩ ?_ (rel_setD h d rfl)
      · rw [setC_eq, setC_eq]; simpa using he
      · rw [heap_mp, setC_eq, setC_eq]
        have := prs_set c'.cl j ((opd S k).run e).av ((opd S v).run e).av
        have e1 : Nat.mul 2 j = 2 * j := rfl
        rw [e1, show Nat.succ (2 * j) = 2 * j + 1 from rfl, this, hky]
        simp only [opS, hid, hy, hv, hko, h0', and_self, if_true, hgt, hr]
  · exact q.bad
end
/-- one operation -/
noncomputable def opC (S J : List Nat) (d : Option Nat) : (op : AOp) → Oc S (outS ⟨d, op, none⟩ S) J
  | .alv cs => match d with
    | some s => oAlv s cs
    | none => oBad _ _ _
  | .blv sz x => match d with
    | some s => oBlv s sz x
    | none => oBad _ _ _
  | .aob cs => oAob d cs
  | .bob sz x => oBob d sz x
  | .st sz a v => bif Nat.beq sz 1 then oSt1 a v else oSt sz a v
  | .sto sz a v => oSto d sz a v
  | .app sz b x => oApp d sz b x
  | .apz sz z b n => oApz d sz z b n
  | .mks sz z n => oMks d sz z n
  | .mkm z n ps => oMkm d z n ps
  | .cpy sz x y => oCpy d sz x y
  | .clr sz z x => oClr d sz z x
  | .mkmp => oMkmp d
  | .rmc m x y => oPv d (pRmc m x y)
  | .mpu n m k v => oMpu d n m k v
  | .mpl n z ok m k => oPv d (pMpl n z ok m k)
  | .sts sz a v => oPv d (pSts sz a v)
  | .thaw sz s => oThaw sz s
  | .frz f s => oFrz f s
  | .call f args => oCall d f args
  | .callc f args cs => oCallc d f args cs
  | .callv f args => oCallv d f args
  | .pan x => oPan x
  | .bad => oBad _ _ _
  | .mv x => oPv d (pMv x)
  | .pick c a b => oPv d (pPick c a b)
  | .bin op x y => oPv d (pBin op x y)
  | .eq neg k x y => oPv d (pEq neg k x y)
  | .un op x => oPv d (pUn op x)
  | .cvi k x => oPv d (pCvi k x)
  | .cvb x => oPv d (pCvb x)
  | .cvs x => oPv d (pCvs x)
  | .cvl x => oPv d (pCvl x)
  | .mkl z n ps => oPv d (pMkl z n ps)
  | .bld z ps => oPv d (pBld z ps)
  | .fa off sz ag a => oPv d (pFa off sz ag a)
  | .ia n sz ag a i => oPv d (pIa n sz ag a i)
  | .ix sz x i => oPv d (pIx sz x i)
  | .ld sz ag a => oPv d (pLd sz ag a)
  | .ldl sz ag s => oPv d (pLdl sz ag s)
  | .ldi sz ag a => oPv d (pLdi sz ag a)
  | .ldp sz ag a => oPv d (pLdp sz ag a)
  | .ldo sz ag a => oPv d (pLdo sz ag a)
  | .ixl sz x i => oPv d (pIxl sz x i)
  | .fld off sz ag x => oPv d (pFld off sz ag x)
  | .ixa n sz ag x i => oPv d (pIxa n sz ag x i)
  | .ixs x i => oPv d (pIxs x i)
  | .len x => oPv d (pLen x)
  | .lns x => oPv d (pLns x)
  | .cap x => oPv d (pCap x)
  | .sl sz x lo hi mx => oPv d (pSl sz x lo hi mx)
  | .ss x lo hi => oPv d (pSs x lo hi)
  | .ext i x => oPv d (pExt i x)
  | .mkif t x => oPv d (pMkif t x)
  | .tas t z ok x => oPv d (pTas t z ok x)
  | .mkfn f cap => oPv d (pMkfn f cap)
  | .nilc x => oPv d (pNilc x)
  | .mnmx mx x y => oPv d (pMnmx mx x y)
  | .bim sz x => oPv d (pBim sz x)
  | .sla n a lo hi => oPv d (pSla n a lo hi)
  | .nat k args => oPv d (pNat k args)
  | .st0 a v => oPv d (pSt0 a v)
theorem opC_ok (S J : List Nat) (d : Option Nat) (op : AOp) : OcOK d op (opC S J d op) := by
  cases op with
  | alv cs => cases d with
    | none => exact oBad_ok _ _ _ _ _
    | some s => exact oAlv_ok s cs
  | blv sz x => cases d with
    | none => exact oBad_ok _ _ _ _ _
    | some s => exact oBlv_ok s sz x
  | aob cs => exact oAob_ok d cs
  | bob sz x => exact oBob_ok d sz x
  | st sz a v =>
    show OcOK d (.st sz a v) (bif Nat.beq sz 1 then oSt1 a v else oSt sz a v)
    cases h : Nat.beq sz 1 with
    | true =>
      obtain rfl := Nat.eq_of_beq_eq_true h
      exact oSt1_ok d a v
    | false => exact oSt_ok d sz a v
  | sto sz a v => exact oSto_ok d sz a v
  | app sz b x => exact oApp_ok d sz b x
  | apz sz z b n => exact oApz_ok d sz z b n
  | mks sz z n => exact oMks_ok d sz z n
  | mkm z n ps => exact oMkm_ok d z n ps
  | cpy sz x y => exact oCpy_ok d sz x y
  | clr sz z x => exact oClr_ok d sz z x
  | mkmp => exact oMkmp_ok d
  | rmc m x y => exact oPv_ok (pRmc_ok m x y) fun _ _ _ => rfl
  | mpu n m k v => exact oMpu_ok d n m k v
  | mpl n z ok m k => exact oPv_ok (pMpl_ok n z ok m k) fun _ _ _ => rfl
  | sts sz a v => exact oPv_ok (pSts_ok sz a v) fun _ _ _ => rfl
  | thaw sz s => exact oThaw_ok d sz s
  | frz f s => exact oFrz_ok d f s
  | call f args => exact oCall_ok d f args
  | callc f args cs => exact oCallc_ok d f args cs
  | callv f args => exact oCallv_ok d f args
  | pan x => exact oPan_ok d x
  | bad => exact oBad_ok _ _ _ _ _
  | mv x => exact oPv_ok (pMv_ok x) fun _ _ _ => rfl
  | pick c a b => exact oPv_ok (pPick_ok c a b) fun _ _ _ => rfl
  | bin op x y => exact oPv_ok (pBin_ok op x y) fun _ _ _ => rfl
  | eq neg k x y => exact oPv_ok (pEq_ok neg k x y) fun _ _ _ => rfl
  | un op x => exact oPv_ok (pUn_ok op x) fun _ _ _ => rfl
  | cvi k x => exact oPv_ok (pCvi_ok k x) fun _ _ _ => rfl
  | cvb x => exact oPv_ok (pCvb_ok x) fun _ _ _ => rfl
  | cvs x => exact oPv_ok (pCvs_ok x) fun _ _ _ => rfl
  | cvl x => exact oPv_ok (pCvl_ok x) fun _ _ _ => rfl
  | mkl z n ps => exact oPv_ok (pMkl_ok z n ps) fun _ _ _ => rfl
  | bld z ps => exact oPv_ok (pBld_ok z ps) fun _ _ _ => rfl
  | fa off sz ag a => exact oPv_ok (pFa_ok off sz ag a) fun _ _ _ => rfl
  | ia n sz ag a i => exact oPv_ok (pIa_ok n sz ag a i) fun _ _ _ => rfl
  | ix sz x i => exact oPv_ok (pIx_ok sz x i) fun _ _ _ => rfl
  | ld sz ag a => exact oPv_ok (pLd_ok sz ag a) fun _ _ _ => rfl
  | ldl sz ag s => exact oPv_ok (pLdl_ok sz ag s) fun _ _ _ => rfl
  | ldi sz ag a => exact oPv_ok (pLdi_ok sz ag a) fun _ _ _ => rfl
  | ldp sz ag a => exact oPv_ok (pLdp_ok sz ag a) fun _ _ _ => rfl
  | ldo sz ag a => exact oPv_ok (pLdo_ok sz ag a) fun _ _ _ => rfl
  | ixl sz x i => exact oPv_ok (pIxl_ok sz x i) fun _ _ _ => rfl
  | fld off sz ag x => exact oPv_ok (pFld_ok off sz ag x) fun _ _ _ => rfl
  | ixa n sz ag x i => exact oPv_ok (pIxa_ok n sz ag x i) fun _ _ _ => rfl
  | ixs x i => exact oPv_ok (pIxs_ok x i) fun _ _ _ => rfl
  | len x => exact oPv_ok (pLen_ok x) fun _ _ _ => rfl
  | lns x => exact oPv_ok (pLns_ok x) fun _ _ _ => rfl
  | cap x => exact oPv_ok (pCap_ok x) fun _ _ _ => rfl
  | sl sz x lo hi mx => exact oPv_ok (pSl_ok sz x lo hi mx) fun _ _ _ => rfl
  | ss x lo hi => exact oPv_ok (pSs_ok x lo hi) fun _ _ _ => rfl
  | ext i x => exact oPv_ok (pExt_ok i x) fun _ _ _ => rfl
  | mkif t x => exact oPv_ok (pMkif_ok t x) fun _ _ _ => rfl
  | tas t z ok x => exact oPv_ok (pTas_ok t z ok x) fun _ _ _ => rfl
  | mkfn f cap => exact oPv_ok (pMkfn_ok f cap) fun _ _ _ => rfl
  | nilc x => exact oPv_ok (pNilc_ok x) fun _ _ _ => rfl
  | mnmx mx x y => exact oPv_ok (pMnmx_ok mx x y) fun _ _ _ => rfl
  | bim sz x => exact oPv_ok (pBim_ok sz x) fun _ _ _ => rfl
  | sla n a lo hi => exact oPv_ok (pSla_ok n a lo hi) fun _ _ _ => rfl
  | nat k args => exact oPv_ok (pNat_ok k args) fun _ _ _ => rfl
  | st0 a v => exact oPv_ok (pSt0_ok a v) fun _ _ _ => rfl

/-! ### an operation, and what goes on behind it -/
structure Os (S S' J : List Nat) where
  run : ZCaller → (E S' → ZH → FR) → KR J → E S → ZH → FR
noncomputable def pvN {S S2 J : List Nat} (d : Option Nat) (p : Pv S) (nx : Os (dS d S) S2 J) : Os S S2 J := match d, nx with
  | some s, nx => ⟨fun cl κ kr e H => p e H fun w => nx.run cl κ kr (E.cons s w e) H⟩
  | none, nx => ⟨fun cl κ kr e H => p e H fun _ => nx.run cl κ kr e H⟩
noncomputable def ocN {S S' S2 J : List Nat} (oc : Oc S S' J) (nx : Os S' S2 J) : Os S S2 J := ⟨fun cl κ kr e H => oc cl (fun e' H' => nx.run cl κ kr e' H') kr e H⟩
noncomputable def opO (S J S2 : List Nat) (d : Option Nat) : (op : AOp) → Os (outS ⟨d, op, none⟩ S) S2 J → Os S S2 J
  | .alv cs, nx => match d, nx with
    | some s, nx => ocN (oAlv s cs) nx
    | none, _ => ⟨fun _ _ _ _ _ => .bad⟩
  | .blv sz x, nx => match d, nx with
    | some s, nx => ocN (oBlv s sz x) nx
    | none, _ => ⟨fun _ _ _ _ _ => .bad⟩
  | .aob cs, nx => ocN (oAob d cs) nx
  | .bob sz x, nx => ocN (oBob d sz x) nx
  | .st sz a v, nx => bif Nat.beq sz 1 then ocN (oSt1 a v) nx else ocN (oSt sz a v) nx
  | .sto sz a v, nx => ocN (oSto d sz a v) nx
  | .app sz b x, nx => ocN (oApp d sz b x) nx
  | .apz sz z b n, nx => ocN (oApz d sz z b n) nx
  | .mks sz z n, nx => ocN (oMks d sz z n) nx
  | .mkm z n ps, nx => ocN (oMkm d z n ps) nx
  | .cpy sz x y, nx => ocN (oCpy d sz x y) nx
  | .clr sz z x, nx => ocN (oClr d sz z x) nx
  | .mkmp, nx => ocN (oMkmp d) nx
  | .rmc m x y, nx => pvN d (pRmc m x y) nx
  | .mpu n m k v, nx => ocN (oMpu d n m k v) nx
  | .mpl n z ok m k, nx => pvN d (pMpl n z ok m k) nx
  | .sts sz a v, nx => pvN d (pSts sz a v) nx
  | .thaw sz s, nx => ocN (oThaw sz s) nx
  | .frz f s, nx => ocN (oFrz f s) nx
  | .call f args, nx => ocN (oCall d f args) nx
  | .callc f args cs, nx => ocN (oCallc d f args cs) nx
  | .callv f args, nx => ocN (oCallv d f args) nx
  | .pan x, nx => ocN (oPan x) nx
  | .bad, nx => ocN (oBad _ _ _) nx
  | .mv x, nx => pvN d (pMv x) nx
  | .pick c a b, nx => pvN d (pPick c a b) nx
  | .bin op x y, nx => pvN d (pBin op x y) nx
  | .eq neg k x y, nx => pvN d (pEq neg k x y) nx
  | .un op x, nx => pvN d (pUn op x) nx
  | .cvi k x, nx => pvN d (pCvi k x) nx
  | .cvb x, nx => pvN d (pCvb x) nx
  | .cvs x, nx => pvN d (pCvs x) nx
  | .cvl x, nx => pvN d (pCvl x) nx
  | .mkl z n ps, nx => pvN d (pMkl z n ps) nx
  | .bld z ps, nx => pvN d (pBld z ps) nx
  | .fa off sz ag a, nx => pvN d (pFa off sz ag a) nx
  | .ia n sz ag a i, nx => pvN d (pIa n sz ag a i) nx
  | .ix sz x i, nx => pvN d (pIx sz x i) nx
  | .ld sz ag a, nx => pvN d (pLd sz ag a) nx
  | .ldl sz ag s, nx => pvN d (pLdl sz ag s) nx
  | .ldi sz ag a, nx => pvN d (pLdi sz ag a) nx
  | .ldp sz ag a, nx => pvN d (pLdp sz ag a) nx
  | .ldo sz ag a, nx => pvN d (pLdo sz ag a) nx
  | .ixl sz x i, nx => pvN d (pIxl sz x i) nx
  | .fld off sz ag x, nx => pvN d (pFld off sz ag x) nx
  | .ixa n sz ag x i, nx => pvN d (pIxa n sz ag x i) nx
  | .ixs x i, nx => pvN d (pIxs x i) nx
  | .len x, nx => pvN d (pLen x) nx
  | .lns x, nx => pvN d (pLns x) nx
  | .cap x, nx => pvN d (pCap x) nx
  | .sl sz x lo hi mx, nx => pvN d (pSl sz x lo hi mx) nx
  | .ss x lo hi, nx => pvN d (pSs x lo hi) nx
  | .ext i x, nx => pvN d (pExt i x) nx
  | .mkif t x, nx => pvN d (pMkif t x) nx
  | .tas t z ok x, nx => pvN d (pTas t z ok x) nx
  | .mkfn f cap, nx => pvN d (pMkfn f cap) nx
  | .nilc x, nx => pvN d (pNilc x) nx
  | .mnmx mx x y, nx => pvN d (pMnmx mx x y) nx
  | .bim sz x, nx => pvN d (pBim sz x) nx
  | .sla n a lo hi, nx => pvN d (pSla n a lo hi) nx
  | .nat k args, nx => pvN d (pNat k args) nx
  | .st0 a v, nx => pvN d (pSt0 a v) nx
theorem pvN_eq {S S2 J : List Nat} (d : Option Nat) (p : Pv S) (nx : Os (dS d S) S2 J) : (pvN d p nx).run = (ocN (oPv d p) nx).run := by cases d <;> rfl
theorem opO_eq (S J S2 : List Nat) (d : Option Nat) (op : AOp) (nx : Os (outS ⟨d, op, none⟩ S) S2 J) : (opO S J S2 d op nx).run = fun cl κ kr e H => opC S J d op cl (fun e' H' => nx.run cl κ kr e' H') kr e H := by
  cases op with
  | alv cs => cases d <;> rfl
  | blv sz x => cases d <;> rfl
  | st sz a v =>
    show (bif Nat.beq sz 1 then ocN (oSt1 a v) nx else ocN (oSt sz a v) nx : Os S S2 J).run = fun cl κ kr e H => (bif Nat.beq sz 1 then oSt1 a v else oSt sz a v : Oc S S J) cl (fun e' H' => nx.run cl κ kr e' H') kr e H
    cases Nat.beq sz 1 <;> rfl
  | _ => first | rfl | exact pvN_eq d _ nx
end Ey
