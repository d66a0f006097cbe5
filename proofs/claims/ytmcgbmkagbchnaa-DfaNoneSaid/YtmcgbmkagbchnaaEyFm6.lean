/- The small language, run in a way that the kernel runs fast: code, calls; what it answers is so. -/
import Derived.Test.YtmcgbmkagbchnaaEyFm5
namespace Ey
open Go (IntKind FloatKind BinOp UnOp)

noncomputable def bindO (o : FOut) (k : FE → FH → FOut) : FOut := @FOut.rec (fun _ => FOut) (fun _ e H => k e H) (fun v H => .pan v H) .bad o
noncomputable def wantK (s : Nat) (w : Bool) (e : FE) (yes no : FOut) : FOut := @Sl.rec (fun _ => FOut) .bad no (fun v => blK v .bad fun b => @Bool.rec (fun _ => FOut) (@Bool.rec (fun _ => FOut) yes no w) (@Bool.rec (fun _ => FOut) no yes w) b) (fun _ => .bad) (fun _ _ => .bad) (getF s e)
noncomputable def stepF : AInstr → FCaller → (FE → FH → FOut) → FE → FH → FOut := @AInstr.rec (fun _ => FCaller → (FE → FH → FOut) → FE → FH → FOut)
  (fun dst op guard cl ih e H => @Option.rec (Nat × Bool) (fun _ => FOut) (bindO (opK op cl dst e H) ih) (fun p => wantK p.1 p.2 e (bindO (opK op cl dst e H) ih) (ih (setF dst .un e) H)) guard)
noncomputable def opsF (cl : FCaller) : List AInstr → FE → FH → FOut := @List.rec AInstr (fun _ => FE → FH → FOut) (fun e H => .go .nrm e H) (fun i _ ih => stepF i cl ih)

noncomputable def dopsF (o : FOut) : FOut := @FOut.rec (fun _ => FOut) (fun _ e H => .go .nrm e H) (fun _ _ => .bad) .bad o
/-- on, if it ended as usual -/
noncomputable def thenF (o : FOut) (k : FE → FH → FOut) : FOut := @FOut.rec (fun _ => FOut) (fun x e H => @Ex.rec (fun _ => FOut) (k e H) (fun i => .go (.exit i) e H) (.go .ret e H) x) (fun v H => .pan v H) .bad o
noncomputable def blockF (id : Nat) (o : FOut) : FOut := @FOut.rec (fun _ => FOut) (fun x e H => @Ex.rec (fun _ => FOut) (.go .nrm e H) (fun i => @Bool.rec (fun _ => FOut) (.go (.exit i) e H) (.go .nrm e H) (Nat.beq i id)) (.go .ret e H) x) (fun v H => .pan v H) .bad o
noncomputable def loopF (b : FE → FH → FOut) (keep : List Nat) : Nat → FE → FH → FOut := @Nat.rec (fun _ => FE → FH → FOut) (fun _ _ => .bad) (fun _ ih e H => thenF (b e H) fun e' H' => ih (keepF keep e') H')
noncomputable def exF (cl : FCaller) (n : Nat) : ACode → FE → FH → FOut := @ACode.rec (fun _ => FE → FH → FOut)
  (fun e H => .go .nrm e H) (fun l => opsF cl l) (fun l e H => dopsF (opsF cl l e H)) (fun _ _ iha ihb e H => thenF (iha e H) ihb)
  (fun c _ _ iha ihb e H => avK c e .bad fun v => blK v .bad fun t => @Bool.rec (fun _ => FOut) (ihb e H) (iha e H) t)
  (fun id _ iha e H => blockF id (iha e H)) (fun keep _ iha e H => loopF iha keep n (keepF keep e) H) (fun i e H => .go (.exit i) e H) (fun e H => .go .ret e H)

noncomputable def underF (n : Nat) (v : AV) : Bool := @AV.rec (fun _ => Bool) (fun _ => Bool) true (fun _ => true) (fun _ _ => true) (fun _ => true) (fun _ _ => true) (fun _ _ ih => ih) true (fun id _ _ _ => Nat.ble (Nat.succ id) n) (fun _ ih => ih) true (fun id _ => Nat.ble (Nat.succ id) n)
  (fun id _ _ _ => Nat.ble (Nat.succ id) n) (fun _ _ ih => ih) true (fun _ _ ih => ih) true (fun _ ih => ih) (fun _ ih => ih) (fun id => Nat.ble (Nat.succ id) n) true true (fun _ _ ih1 ih2 => @Bool.rec (fun _ => Bool) false ih2 ih1) v
noncomputable def underL (n : Nat) (l : List AV) : Bool := @AV.rec_1 (fun _ => Bool) (fun _ => Bool) true (fun _ => true) (fun _ _ => true) (fun _ => true) (fun _ _ => true) (fun _ _ ih => ih) true (fun id _ _ _ => Nat.ble (Nat.succ id) n) (fun _ ih => ih) true (fun id _ => Nat.ble (Nat.succ id) n)
  (fun id _ _ _ => Nat.ble (Nat.succ id) n) (fun _ _ ih => ih) true (fun _ _ ih => ih) true (fun _ ih => ih) (fun _ ih => ih) (fun id => Nat.ble (Nat.succ id) n) true true (fun _ _ ih1 ih2 => @Bool.rec (fun _ => Bool) false ih2 ih1) l

theorem ble_lt (a b : Nat) : Nat.ble (Nat.succ a) b = decide (a < b) := by
  by_cases h : a < b
  · rw [Nat.ble_eq_true_of_le h]; simp [h]
  · cases hb : Nat.ble (Nat.succ a) b with
    | false => simp [h]
    | true => exact absurd (Nat.le_of_ble_eq_true hb) h

mutual
theorem underF_eq (n : Nat) : ∀ v : AV, underF n v = v.under n
  | .undef => rfl
  | .bool _ => rfl
  | .int _ _ => rfl
  | .str _ => rfl
  | .flt _ _ => rfl
  | .list _ xs => underL_eq n xs
  | .cap0 => rfl
  | .ms id _ _ _ => ble_lt id n
  | .imm v => underF_eq n v
  | .nilp => rfl
  | .ptr id _ => ble_lt id n
  | .ap id _ _ _ => ble_lt id n
  | .fn _ c => underL_eq n c
  | .nilfn => rfl
  | .iface _ v => underF_eq n v
  | .niliface => rfl
  | .agg cs => underL_eq n cs
  | .tup vs => underL_eq n vs
  | .mp id => ble_lt id n
  | .nilmap => rfl
theorem underL_eq (n : Nat) : ∀ l : List AV, underL n l = AV.underAll n l
  | [] => rfl
  | v :: r => by
    show @Bool.rec (fun _ => Bool) false (underL n r) (underF n v) = _
    rw [underF_eq n v, underL_eq n r]
    simp only [AV.underAll]
    cases v.under n <;> rfl
end

noncomputable def resF1 (e : FE) (H : FH) (r : ARes) (k : AV → FRes) : FRes := @ARes.rec (fun _ => FRes) (fun t => @Sl.rec (fun _ => FRes) .bad .bad k (fun _ => .bad) (fun _ _ => .bad) (getF t e)) (fun s sz ag => ldK e H sz ag (slT s e) .bad k) r
noncomputable def resFs (e : FE) (H : FH) : List ARes → (List AV → FRes) → FRes := @List.rec ARes (fun _ => (List AV → FRes) → FRes) (fun k => k []) (fun r _ ih k => resF1 e H r fun v => ih fun vs => k (v :: vs))
noncomputable def resF (e : FE) (H : FH) (l : List ARes) (k : AV → FRes) : FRes := @List.rec ARes (fun _ => FRes) (k (.tup [])) (fun r t _ => @List.rec ARes (fun _ => FRes) (resF1 e H r k) (fun _ _ _ => resFs e H l fun vs => k (.tup vs)) t) l
noncomputable def doneF (pure : Bool) (H : FH) (v : AV) (H' : FH) (mk : AV → FH → FRes) : FRes := @Bool.rec (fun _ => FRes) (mk v ⟨H'.next, H.ro, H'.bl⟩) (@Bool.rec (fun _ => FRes) .bad (mk v H) (underF H.next v)) pure
noncomputable def finF (af : AFn) (H : FH) (o : FOut) : FRes := @FOut.rec (fun _ => FRes) (fun x e H' => @Ex.rec (fun _ => FRes) (resF e H' af.results fun v => doneF af.pure H v H' .ret) (fun _ => .bad) (resF e H' af.results fun v => doneF af.pure H v H' .ret) x) (fun v H' => doneF af.pure H v H' .pan) .bad o
noncomputable def bodyF (af : AFn) (H : FH) : FH := @Bool.rec (fun _ => FH) H ⟨H.next, H.next, H.bl⟩ af.pure
noncomputable def initF (l : List AV) : Nat → FE := @List.rec AV (fun _ => Nat → FE) (fun _ => .nil) (fun v _ ih i => .cons i (.v v) (ih (Nat.succ i))) l

/-- functions, to be found fast -/
inductive FT where
  | nil
  | leaf (a : AFn)
  | node (m : Nat) (l r : FT)
def FT.flat : FT → List AFn
  | .nil => []
  | .leaf a => [a]
  | .node _ l r => l.flat ++ r.flat
def FT.size : FT → Nat
  | .nil => 0
  | .leaf _ => 1
  | .node _ l r => l.size + r.size
def FT.ok : FT → Bool
  | .nil => true
  | .leaf _ => true
  | .node m l r => m == l.size && l.ok && r.ok
noncomputable def FT.look : FT → Nat → Option AFn := @FT.rec (fun _ => Nat → Option AFn) (fun _ => none) (fun a i => @Nat.rec (fun _ => Option AFn) (some a) (fun _ _ => none) i) (fun m _ _ ihl ihr i => @Bool.rec (fun _ => Option AFn) (ihr (Nat.sub i m)) (ihl i) (Nat.ble (Nat.succ i) m))
theorem FT.size_flat : ∀ t : FT, t.flat.length = t.size
  | .nil => rfl
  | .leaf _ => rfl
  | .node _ l r => by simp [FT.flat, FT.size, FT.size_flat l, FT.size_flat r]
theorem FT.look_eq : ∀ (t : FT), t.ok = true → ∀ i, t.look i = t.flat[i]?
  | .nil, _, i => by simp [FT.look, FT.flat]
  | .leaf a, _, i => by cases i <;> rfl
  | .node m l r, h, i => by
    simp only [FT.ok, Bool.and_eq_true, beq_iff_eq] at h
    obtain ⟨⟨h1, h2⟩, h3⟩ := h
    show @Bool.rec (fun _ => Option AFn) (r.look (i - m)) (l.look i) (Nat.ble (Nat.succ i) m) = _
    rw [ble_lt, FT.look_eq l h2, FT.look_eq r h3]
    simp only [FT.flat]
    by_cases hi : i < m
    · simp only [hi, decide_true]
      rw [List.getElem?_append_left (by rw [FT.size_flat]; omega)]
    · simp only [hi, decide_false]
      rw [List.getElem?_append_right (by rw [FT.size_flat]; omega), FT.size_flat, h1]

noncomputable def callB (t : FT) (n : Nat) (cl : FCaller) : FCaller := fun f args H => @Option.rec AFn (fun _ => FRes) .bad (fun af => @Bool.rec (fun _ => FRes) .bad (finF af H (exF cl n af.code (initF args 0) (bodyF af H))) (Nat.beq (lenF args) af.params)) (t.look f)
noncomputable def callF (t : FT) : Nat → FCaller := @Nat.rec (fun _ => FCaller) (fun _ _ _ => .bad) (fun n ih => callB t n ih)

/-! ### so it is -/
section
variable {Φ : Nat → Option AFn} {cl : FCaller}

theorem bind_agr {o : FOut} {r : Option Out} {k : FE → FH → FOut} {g : Env → Heap → Option Out} (h : Agr o r) (hk : ∀ e H, H.ok → Agr (k e H) (g e.env H.heap)) : Agr (bindO o k) (match r with | some (.go _ e' H') => g e' H' | x => x) := by
  cases o with
  | go x e H => obtain ⟨rfl, hH⟩ := h; exact hk e H hH
  | pan v H => obtain ⟨⟨e, rfl⟩, hH⟩ := h; exact ⟨⟨e, rfl⟩, hH⟩
  | bad => trivial

theorem opsF_agr {c : Caller} (hcl : AgrC cl c) : ∀ (l : List AInstr) (e : FE) (H : FH), H.ok → Agr (opsF cl l e H) (opsS c l e.env H.heap)
  | [], e, H, hH => ⟨rfl, hH⟩
  | i :: l, e, H, hH => by
    obtain ⟨dst, op, guard⟩ := i
    have hop := bind_agr (opK_agr (d := dst) (e := e) hcl hH op) (fun e H hH => opsF_agr hcl l e H hH)
    have hun : Agr (opsF cl l (setF dst .un e) H) (opsS c l (setDst dst .un e.env) H.heap) := by
      rw [← setF_eq]; exact opsF_agr hcl l _ H hH
    cases guard with
    | none => exact hop
    | some p =>
      obtain ⟨s, w⟩ := p
      show Agr (wantK s w e (bindO (opK op cl dst e H) (opsF cl l)) (opsF cl l (setF dst .un e) H)) _
      simp only [wantK, getF_eq, opsS, wantedS]
      cases hq : e.env.get s with
      | no => trivial
      | lv c => trivial
      | lp a b => trivial
      | un => exact hun
      | v x =>
        simp only
        rw [blK_eq]
        cases x <;> try trivial
        rename_i b
        cases b <;> cases w <;> first | exact hop | exact hun

theorem then_agr {o : FOut} {r : Option Out} {k : FE → FH → FOut} {g : Env → Heap → Option Out} (h : Agr o r) (hk : ∀ e H, H.ok → Agr (k e H) (g e.env H.heap)) : Agr (thenF o k) (match r with | some (.go .nrm e' H') => g e' H' | x => x) := by
  cases o with
  | go x e H =>
    obtain ⟨rfl, hH⟩ := h
    cases x with
    | nrm => exact hk e H hH
    | exit i => exact ⟨rfl, hH⟩
    | ret => exact ⟨rfl, hH⟩
  | pan v H => obtain ⟨⟨e, rfl⟩, hH⟩ := h; exact ⟨⟨e, rfl⟩, hH⟩
  | bad => trivial

theorem loopF_agr {b : FE → FH → FOut} {keep : List Nat} {a : ACode} (hb : ∀ e H, H.ok → Agr (b e H) (evX Φ a e.env H.heap)) : ∀ (n : Nat) (e : FE) (H : FH) (e0 : Env), H.ok → e.env = keepS keep e0 → Agr (loopF b keep n e H) (evX Φ (.loop keep a) e0 H.heap)
  | 0, _, _, _, _, _ => trivial
  | n + 1, e, H, e0, hH, he => by
    rw [evX_loop, ← he]
    exact then_agr (hb e H hH) fun e' H' hH' => loopF_agr hb n (keepF keep e') H' e'.env hH' (keepF_eq keep e')

theorem exF_agr (hcl : AgrC cl (evC Φ)) (n : Nat) : ∀ (c : ACode) (e : FE) (H : FH), H.ok → Agr (exF cl n c e H) (evX Φ c e.env H.heap)
  | .skip, e, H, hH => by rw [evX_skip]; exact ⟨rfl, hH⟩
  | .ops l, e, H, hH => by rw [evX_ops]; exact opsF_agr hcl l e H hH
  | .dops l, e, H, hH => by
    rw [evX_dops]
    show Agr (dopsF (opsF cl l e H)) _
    have := opsF_agr hcl l e H hH
    cases ho : opsF cl l e H with
    | go x e' H' => rw [ho] at this; rw [this.1]; exact ⟨rfl, this.2⟩
    | pan v H' => trivial
    | bad => trivial
  | .seq a b, e, H, hH => by
    rw [evX_seq]
    exact then_agr (exF_agr hcl n a e H hH) fun e' H' hH' => exF_agr hcl n b e' H' hH'
  | .cond g a b, e, H, hH => by
    rw [evX_cond]
    show Agr (avK g e .bad fun v => blK v .bad fun t => @Bool.rec (fun _ => FOut) (exF cl n b e H) (exF cl n a e H) t) _
    refine avK_agr fun v hv => ?_
    rw [blK_eq, hv]
    cases v <;> try trivial
    rename_i t
    cases t
    · exact exF_agr hcl n b e H hH
    · exact exF_agr hcl n a e H hH
  | .block id a, e, H, hH => by
    rw [evX_block]
    show Agr (blockF id (exF cl n a e H)) _
    have := exF_agr hcl n a e H hH
    cases ho : exF cl n a e H with
    | go x e' H' =>
      rw [ho] at this; rw [this.1]
      cases x with
      | nrm => exact ⟨rfl, this.2⟩
      | ret => exact ⟨rfl, this.2⟩
      | exit i =>
        simp only [blockF]
        cases hb : Nat.beq i id with
        | true => rw [if_pos (Nat.eq_of_beq_eq_true hb)]; exact ⟨rfl, this.2⟩
        | false => rw [if_neg (Nat.ne_of_beq_eq_false hb)]; exact ⟨rfl, this.2⟩
    | pan v H' => rw [ho] at this; obtain ⟨⟨e', h1⟩, h2⟩ := this; rw [h1]; exact ⟨⟨e', rfl⟩, h2⟩
    | bad => trivial
  | .loop keep a, e, H, hH => loopF_agr (fun e H hH => exF_agr hcl n a e H hH) n (keepF keep e) H e.env hH (keepF_eq keep e)
  | .exit i, e, H, hH => by rw [evX_exit]; exact ⟨rfl, hH⟩
  | .ret, e, H, hH => by rw [evX_ret]; exact ⟨rfl, hH⟩

def AgrR (o : FRes) (r : Option CRes) : Prop := match o with
  | .ret v H => r = some (.ret v H.heap) ∧ H.ok
  | .pan v H => r = some (.pan v H.heap) ∧ H.ok
  | .bad => True

theorem resF1_agr {e : FE} {H : FH} (hH : H.ok) {r : ARes} {k : AV → FRes} {q : Option CRes} (h : ∀ v, resS e.env H.heap r = some v → AgrR (k v) q) : AgrR (resF1 e H r k) q := by
  cases r with
  | tmp t =>
    simp only [resF1, getF_eq]
    simp only [resS] at h
    cases hq : e.env.get t with
    | v x => rw [hq] at h; exact h x rfl
    | _ => trivial
  | cell s sz ag =>
    show AgrR (ldK e H sz ag (slT s e) .bad k) q
    rw [ldK_eq hH]
    have : slT s e = e.env.sl (.t s) := slF_eq (.t s) e
    rw [this]
    simp only [resS] at h
    cases hq : ldS e.env H.heap sz ag (e.env.sl (.t s)) with
    | none => trivial
    | some v => exact h v hq

theorem resFs_agr {e : FE} {H : FH} (hH : H.ok) {q : Option CRes} : ∀ {l : List ARes} {k : List AV → FRes}, (∀ vs, resAll e.env H.heap l = some vs → AgrR (k vs) q) → AgrR (resFs e H l k) q
  | [], k, h => h [] rfl
  | r :: l, k, h => by
    refine resF1_agr hH (r := r) (k := fun v => resFs e H l fun vs => k (v :: vs)) fun v hv => resFs_agr hH fun vs hvs => h _ ?_
    simp only [resAll, hv, hvs, Option.map_some]

theorem resF_agr {e : FE} {H : FH} (hH : H.ok) {l : List ARes} {k : AV → FRes} {q : Option CRes} (h : ∀ v, resOf e.env H.heap l = some v → AgrR (k v) q) : AgrR (resF e H l k) q := by
  match l with
  | [] => exact h _ rfl
  | [r] => exact resF1_agr hH h
  | r :: r2 :: t =>
    refine resFs_agr hH (l := r :: r2 :: t) (k := fun vs => k (.tup vs)) fun vs hvs => h _ ?_
    simp only [resOf, hvs, Option.map_some]

theorem fin_agr {af : AFn} {H : FH} (hH : H.ok) {o : FOut} {r : Option Out} (h : Agr o r) : AgrR (finF af H o) (finS af H.heap r) := by
  have hheap : ∀ H' : FH, ({ H'.heap with ro := H.heap.ro } : Heap) = FH.heap ⟨H'.next, H.ro, H'.bl⟩ := fun _ => rfl
  have done : ∀ (e : FE) (H' : FH) (w : Ex), (w = .nrm ∨ w = .ret) → H'.ok → AgrR (resF e H' af.results fun v => doneF af.pure H v H' .ret) (finS af H.heap (some (.go w e.env H'.heap))) := fun e H' w hw hH' => by
    refine resF_agr hH' fun v hv => ?_
    have hfin : finS af H.heap (some (.go w e.env H'.heap)) = if af.pure then (if v.under H.heap.next then some (.ret v H.heap) else none) else some (.ret v { H'.heap with ro := H.heap.ro }) := by
      rcases hw with rfl | rfl <;> simp only [finS, hv]
    rw [hfin]
    simp only [doneF]
    cases af.pure with
    | true =>
      simp only [if_true, underF_eq]
      have : H.heap.next = H.next := rfl
      rw [this]
      cases v.under H.next with
      | true => exact ⟨rfl, hH⟩
      | false => trivial
    | false => exact ⟨rfl, hH'⟩
  cases o with
  | go x e H' =>
    obtain ⟨rfl, hH'⟩ := h
    cases x with
    | nrm => exact done e H' .nrm (.inl rfl) hH'
    | ret => exact done e H' .ret (.inr rfl) hH'
    | exit i => trivial
  | pan v H' =>
    obtain ⟨⟨e, rfl⟩, hH'⟩ := h
    simp only [finF, doneF, finS]
    cases af.pure with
    | true =>
      simp only [if_true, underF_eq]
      have : H.heap.next = H.next := rfl
      rw [this]
      cases v.under H.next with
      | true => exact ⟨rfl, hH⟩
      | false => trivial
    | false => exact ⟨rfl, hH'⟩
  | bad => trivial

theorem initF_eq : ∀ (l : List AV) (i : Nat), (initF l i).env = initEnv i l
  | [], _ => rfl
  | v :: l, i => by
    show (i, Sl.v v) :: (initF l (Nat.succ i)).env = _
    rw [initF_eq l]; rfl

theorem bodyF_eq (af : AFn) (H : FH) : (bodyF af H).heap = bodyH af H.heap := by
  simp only [bodyF, bodyH]
  cases af.pure <;> rfl
theorem bodyF_ok {af : AFn} {H : FH} (h : H.ok) : (bodyF af H).ok := by
  simp only [bodyF]
  cases af.pure <;> exact h

theorem agrC_iff {c : Caller} : AgrC cl c ↔ ∀ f vs H, H.ok → AgrR (cl f vs H) (c f vs H.heap) := Iff.rfl

theorem callF_agr {t : FT} (ht : ∀ f, t.look f = Φ f) : ∀ n, AgrC (callF t n) (evC Φ)
  | 0 => fun _ _ _ _ => trivial
  | n + 1 => fun f vs H hH => by
    show AgrR (callB t n (callF t n) f vs H) (evC Φ f vs H.heap)
    simp only [callB, ht]
    cases hf : Φ f with
    | none => trivial
    | some af =>
      simp only [lenF_eq]
      cases hl : Nat.beq vs.length af.params with
      | false => trivial
      | true =>
        rw [evC_eq hf (Nat.eq_of_beq_eq_true hl)]
        have := exF_agr (callF_agr ht n) n af.code (initF vs 0) (bodyF af H) (bodyF_ok hH)
        rw [initF_eq, bodyF_eq] at this
        exact fin_agr hH this

/-- nothing lies in memory -/
def FH.none : FH := ⟨0, 0, .nil⟩
theorem FH.none_ok : FH.none.ok := fun _ _ _ _ _ h => by cases h

theorem run_ret {t : FT} (ht : ∀ f, t.look f = Φ f) {n f : Nat} {vs : List AV} {H : FH} (hH : H.ok) {v : AV} {H' : FH} (h : callF t n f vs H = .ret v H') : evC Φ f vs H.heap = some (.ret v H'.heap) := by
  have := callF_agr ht n f vs H hH
  rw [h] at this
  exact this.1
end
end Ey
