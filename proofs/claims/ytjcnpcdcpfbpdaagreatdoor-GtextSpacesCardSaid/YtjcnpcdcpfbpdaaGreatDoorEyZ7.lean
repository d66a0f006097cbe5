/- The fast form: code. What a piece of code does is laid down once, as closed terms, and found again by the kernel. -/
import Derived.Test.YtjcnpcdcpfbpdaaGreatDoorEyZ6
namespace Ey
open Go (IntKind FloatKind BinOp UnOp)

/-- how a piece of code is to be laid down: which slots go on behind its parts (whatever is chosen here, the answers are right) -/
inductive An where
  | o
  | p (b : An)
  | g (x b : An) (J : List Nat)
  | h (x b : An) (J : List Nat)
  | s (a b : An) (J : List Nat)
  | c (a b : An)
  | b (a : An)
  | l (N : List Nat) (a : An)
  | d (a b : An) (N : List Nat)
  deriving Inhabited

def opsS' : List AInstr → List Nat → List Nat
  | [], S => S
  | i :: l, S => match i.guard with
    | none => opsS' l (outS ⟨i.dst, i.op, none⟩ S)
    | some _ => opsS' l (dS i.dst S)
noncomputable def opsC (J : List Nat) : (l : List AInstr) → (S : List Nat) → Os S (opsS' l S) J
  | [], _ => ⟨fun _ κ _ e H => κ e H⟩
  | ⟨d, op, none⟩ :: l, S => opO S J _ d op (opsC J l (outS ⟨d, op, none⟩ S))
  | ⟨d, op, some (s, w)⟩ :: l, S => ⟨fun cl κ kr e H => guK ((acc S s).run e) w .bad
      (opC S J d op cl (fun e' H' => (opsC J l (dS d S)).run cl κ kr ((nrmC (outS ⟨d, op, none⟩ S) (dS d S)).run e') H') kr e H)
      ((opsC J l (dS d S)).run cl κ kr (setD d e .un) H)⟩

theorem wanted_gu (x : Env) (s : Nat) (w : Bool) : wantedS x (some (s, w)) = guS (x.get s) w := by
  simp only [wantedS, guS]
  cases x.get s with
  | v y => cases y <;> rfl
  | _ => rfl
section
variable {Φ : Nat → Option AFn}
theorem opsC_ok {c : Caller} {cl : ZCaller} (hcl : AgrZ cl c) {J : List Nat} : ∀ (l : List AInstr) (S : List Nat) (e : E S) (x : Env) (H : ZH) (κ : E (opsS' l S) → ZH → FR) (kr : KR J) (q : Pr), H.ok → Rel S e x →
    Go1 κ q (opsS c l x H.heap) → Pan1 kr q (opsS c l x H.heap) → Agr ((opsC J l S).run cl κ kr e H) q
  | [], S, e, x, H, κ, kr, q, hH, h, hg, hp => hg e x H hH rfl h
  | ⟨d, op, none⟩ :: l, S, e, x, H, κ, kr, q, hH, h, hg, hp => by
    have hop := opC_ok S J d op cl c hcl e x H (fun e' H' => (opsC J l (outS ⟨d, op, none⟩ S)).run cl κ kr e' H') kr q hH h
    show Agr ((opO S J _ d op (opsC J l (outS ⟨d, op, none⟩ S))).run cl κ kr e H) q
    rw [opO_eq]
    refine hop (fun e' x' H' hH' ho hr => opsC_ok hcl l _ e' x' H' κ kr q hH' hr ?_ ?_) (fun v er x' H' hH' ho hv hr => hp v er x' H' hH' ?_ hv hr)
    · intro e2 x2 H2 hH2 ho2 hr2
      exact hg e2 x2 H2 hH2 (by simp only [opsS, wantedS, ho]; exact ho2) hr2
    · intro v er x2 H2 hH2 ho2 hv hr2
      exact hp v er x2 H2 hH2 (by simp only [opsS, wantedS, ho]; exact ho2) hv hr2
    · simp only [opsS, wantedS, ho]
  | ⟨d, op, some (s, w)⟩ :: l, S, e, x, H, κ, kr, q, hH, h, hg, hp => by
    refine guK_ok (P := fun r => Agr r q) (get_den h s) q.bad (fun hw => ?_) (fun hw => ?_)
    · have hw' : wantedS x (some (s, w)) = some true := (wanted_gu x s w).trans hw
      have hop := opC_ok S J d op cl c hcl e x H (fun e' H' => (opsC J l (dS d S)).run cl κ kr ((nrmC (outS ⟨d, op, none⟩ S) (dS d S)).run e') H') kr q hH h
      refine hop (fun e' x' H' hH' ho hr => opsC_ok hcl l _ _ x' H' κ kr q hH' (rel_nrm hr _) ?_ ?_) (fun v er x' H' hH' ho hv hr => hp v er x' H' hH' ?_ hv hr)
      · intro e2 x2 H2 hH2 ho2 hr2
        exact hg e2 x2 H2 hH2 (by simp only [opsS, hw', ho]; exact ho2) hr2
      · intro v er x2 H2 hH2 ho2 hv hr2
        exact hp v er x2 H2 hH2 (by simp only [opsS, hw', ho]; exact ho2) hv hr2
      · simp only [opsS, hw', ho]
    · have hw' : wantedS x (some (s, w)) = some false := (wanted_gu x s w).trans hw
      refine opsC_ok hcl l _ _ (setDst d .un x) H κ kr q hH (rel_setD h d rfl) ?_ ?_
      · intro e2 x2 H2 hH2 ho2 hr2
        exact hg e2 x2 H2 hH2 (by simp only [opsS, hw']; exact ho2) hr2
      · intro v er x2 H2 hH2 ho2 hv hr2
        exact hp v er x2 H2 hH2 (by simp only [opsS, hw']; exact ho2) hv hr2

/-! ### ends of blocks -/
def KX (Γ : List (Nat × List Nat)) : Type := @List.rec (Nat × List Nat) (fun _ => Type) PUnit (fun g _ T => (E g.2 → ZH → FR) × T) Γ
def KX.none : KX [] := PUnit.unit
def KX.cons {Γ : List (Nat × List Nat)} (i : Nat) {J : List Nat} (k : E J → ZH → FR) (kx : KX Γ) : KX ((i, J) :: Γ) := Prod.mk (α := E J → ZH → FR) (β := KX Γ) k kx
structure Ex' (Γ : List (Nat × List Nat)) (S : List Nat) where
  run : KX Γ → E S → ZH → FR
def exC (id : Nat) (S : List Nat) : (Γ : List (Nat × List Nat)) → Ex' Γ S
  | [] => ⟨fun _ _ _ => .bad⟩
  | (i, J) :: r => bif Nat.beq id i then ⟨fun kx e H => Prod.fst (α := E J → ZH → FR) (β := KX r) kx ((nrmC S J).run e) H⟩ else ⟨fun kx e H => (exC id S r).run (Prod.snd (α := E J → ZH → FR) (β := KX r) kx) e H⟩
def ExX {Γ : List (Nat × List Nat)} (kx : KX Γ) (q : Pr) (o : Option Out) : Prop := ∀ (id : Nat) (S : List Nat) (e : E S) (x : Env) (H : ZH), H.ok → o = some (.go (.exit id) x H.heap) → Rel S e x → Agr ((exC id S Γ).run kx e H) q
def RetX {J : List Nat} (kr : KR J) (q : Pr) (o : Option Out) : Prop := ∀ e' x' H', H'.ok → o = some (.go .ret x' H'.heap) → Rel J e' x' → Agr (kr.r e' H') q
theorem exX_cons {Γ : List (Nat × List Nat)} {kx : KX Γ} {q : Pr} {o o' : Option Out} (h : ExX kx q o) (i : Nat) {J : List Nat} {k : E J → ZH → FR}
    (hk : ∀ e' x' H', H'.ok → o' = some (.go (.exit i) x' H'.heap) → Rel J e' x' → Agr (k e' H') q) (ho : ∀ id x H, id ≠ i → o' = some (.go (.exit id) x H) → o = some (.go (.exit id) x H)) : ExX (KX.cons i k kx) q o' := by
  intro id S e x H hH ho' hr
  simp only [exC, beq_dec]
  by_cases hi : id = i
  · subst hi
    simp only [decide_true, cond_true]
    exact hk _ x H hH ho' (rel_nrm hr J)
  · simp only [hi, decide_false, cond_false]
    exact h id S e x H hH (ho id x H.heap hi ho') hr

/-! ### loops -/
def nosE : (N : List Nat) → E N
  | [] => E.none
  | s :: r => E.cons s .no (nosE r)
structure Kp (S S' : List Nat) where
  run : E S → (E S' → FR) → FR
noncomputable def kpC (S N : List Nat) : (keep : List Nat) → Kp S (keep ++ N)
  | [] => ⟨fun _ k => k (nosE N)⟩
  | s :: r => ⟨fun e k => keK ((acc S s).run e) fun v => (kpC S N r).run e fun t => k (E.cons s v t)⟩
theorem nosE_get : ∀ (N : List Nat) (s : Nat), getE N (nosE N) s = .no ∨ getE N (nosE N) s = .wh
  | [], _ => .inr rfl
  | a :: r, s => by
    simp only [getE]
    split
    · exact .inl rfl
    · exact nosE_get r s
theorem keepS_get : ∀ (l : List Nat) (e : Env) (s : Nat), (keepS l e).get s = if s ∈ l then (match e.get s with | .lp _ _ => .no | x => x) else .no
  | [], e, s => by simp [keepS, Env.get]
  | a :: l, e, s => by
    have ih := keepS_get l e s
    simp only [keepS, List.map_cons, Env.get] at ih ⊢
    by_cases h : s = a
    · subst h; simp only [if_true, List.mem_cons, true_or]; cases e.get s <;> rfl
    · simp only [h, if_false, List.mem_cons, false_or]; exact ih
theorem kpC_ok {S N : List Nat} {e : E S} {x : Env} (h : Rel S e x) {q : Pr} (keep : List Nat) {k : E (keep ++ N) → FR} (hk : ∀ e', Rel (keep ++ N) e' (keepS keep x) → Agr (k e') q) : Agr ((kpC S N keep).run e k) q := by
  have key : ∀ (l : List Nat) {k : E (l ++ N) → FR}, (∀ e', (∀ s, s ∈ l → (getE (l ++ N) e' s).den (match x.get s with | .lp _ _ => .no | y => y)) → (∀ s, s ∉ l → (getE (l ++ N) e' s = .no ∨ getE (l ++ N) e' s = .wh)) → Agr (k e') q) → Agr ((kpC S N l).run e k) q := by
    intro l
    induction l with
    | nil => exact fun hk => hk (nosE N) (fun s hs => by cases hs) (fun s _ => nosE_get N s)
    | cons a l ih =>
      intro k hk
      refine keK_ok (P := fun r => Agr r q) fun v hv => ih fun e' h1 h2 => hk _ (fun s hs => ?_) (fun s hs => ?_)
      · show (getE (a :: (l ++ N)) (E.cons a v e') s).den _
        simp only [getE]
        split
        · rename_i hsa
          subst hsa
          exact hv _ (get_den h s)
        · rename_i hsa
          exact h1 s (by simpa [hsa] using hs)
      · show getE (a :: (l ++ N)) (E.cons a v e') s = .no ∨ getE (a :: (l ++ N)) (E.cons a v e') s = .wh
        simp only [List.mem_cons, not_or] at hs
        simp only [getE, hs.1, if_false]
        exact h2 s hs.2
  refine key keep fun e' h1 h2 => hk e' fun s => ?_
  rw [keepS_get]
  by_cases hs : s ∈ keep
  · rw [if_pos hs]; exact h1 s hs
  · rw [if_neg hs]
    rcases h2 s hs with h3 | h3 <;> rw [h3]
    · rfl
    · trivial

/-! ### arguments -/
def iotN : Nat → Nat → List Nat → List Nat
  | 0, _, N => N
  | n + 1, i, N => i :: iotN n (i + 1) N
structure In (S : List Nat) where
  run : V → (E S → FR) → FR
noncomputable def inC (N : List Nat) : (n i : Nat) → In (iotN n i N)
  | 0, _ => ⟨fun w k => nxK w .bad (k (nosE N))⟩
  | n + 1, i => ⟨fun w k => unK w .bad fun h t => vK h .bad ((inC N n (i + 1)).run t fun e => k (E.cons i h e))⟩
theorem initEnv_lt : ∀ (vs : List AV) (i s : Nat), s < i → (initEnv i vs).get s = .no
  | [], _, _, _ => rfl
  | v :: r, i, s, h => by
    simp only [initEnv, Env.get]
    rw [if_neg (by omega)]
    exact initEnv_lt r (i + 1) s (by omega)
theorem initEnv_ge : ∀ (vs : List AV) (i s : Nat), i + vs.length ≤ s → (initEnv i vs).get s = .no
  | [], _, _, _ => rfl
  | v :: r, i, s, h => by
    simp only [List.length_cons] at h
    simp only [initEnv, Env.get]
    rw [if_neg (by omega)]
    exact initEnv_ge r (i + 1) s (by omega)
theorem inC_ok {q : Pr} {N : List Nat} : ∀ (n i : Nat) (w : V) {k : E (iotN n i N) → FR},
    (w.cl.length = n → ∀ e', (∀ s, i ≤ s → (getE (iotN n i N) e' s).den ((initEnv i w.cl).get s)) → (∀ s, s < i → (getE (iotN n i N) e' s = .no ∨ getE (iotN n i N) e' s = .wh)) → Agr (k e') q) → Agr ((inC N n i).run w k) q
  | 0, i, w, k, hk => nxK_ok (P := fun r => Agr r q) q.bad fun hw => hk (by rw [hw]; rfl) _ (fun s _ => by
      rw [hw]
      show (getE N (nosE N) s).den _
      rcases nosE_get N s with h | h <;> rw [h]
      · rfl
      · trivial) (fun s _ => nosE_get N s)
  | n + 1, i, w, k, hk => by
    refine unK_ok (P := fun r => Agr r q) q.bad fun h t hw => vK_ok (P := fun r => Agr r q) q.bad fun hp => inC_ok n (i + 1) t fun hl e' h1 h2 => ?_
    subst hw
    refine hk (by simp only [V.cl, List.length_cons, hl]) _ (fun s hs => ?_) (fun s hs => ?_)
    · simp only [V.cl, initEnv, Env.get, iotN, getE]
      by_cases hsi : s = i
      · rw [if_pos hsi, if_pos hsi]; exact pv_den hp
      · rw [if_neg hsi, if_neg hsi]; exact h1 s (by omega)
    · simp only [iotN, getE]
      rw [if_neg (by omega)]
      exact h2 s (by omega)
theorem inC_rel {q : Pr} {N : List Nat} (n : Nat) (w : V) {k : E (iotN n 0 N) → FR} (hk : w.cl.length = n → ∀ e', Rel (iotN n 0 N) e' (initEnv 0 w.cl) → Agr (k e') q) : Agr ((inC N n 0).run w k) q :=
  inC_ok n 0 w fun hl e' h1 _ => hk hl e' fun s => h1 s (Nat.zero_le _)

/-! ### code -/
structure Cl (S J : List Nat) (Γ : List (Nat × List Nat)) (Jr : List Nat) where
  run : ZCaller → (E J → ZH → FR) → KX Γ → KR Jr → E S → ZH → FR
noncomputable def clBad (S J : List Nat) (Γ : List (Nat × List Nat)) (Jr : List Nat) : Cl S J Γ Jr := ⟨fun _ _ _ _ _ _ => .bad⟩
noncomputable def KR.np {J : List Nat} (kr : KR J) : KR J := ⟨kr.r, fun _ _ _ => .bad⟩
noncomputable def lpZ {Sl : List Nat} (b : (E Sl → ZH → FR) → E Sl → ZH → FR) : Nat → E Sl → ZH → FR := @Nat.rec (fun _ => E Sl → ZH → FR) (fun _ _ => .bad) (fun _ ih e H => b ih e H)
noncomputable def comp (Jr : List Nat) : ACode → An → (S J : List Nat) → (Γ : List (Nat × List Nat)) → Cl S J Γ Jr
  | .skip, _, S, J, _ => ⟨fun _ κ _ _ e H => κ ((nrmC S J).run e) H⟩
  | .ops l, _, S, J, _ => ⟨fun cl κ _ kr e H => (opsC Jr l S).run cl (fun e' H' => κ ((nrmC (opsS' l S) J).run e') H') kr e H⟩
  | .dops l, _, S, J, _ => ⟨fun cl κ _ kr e H => (opsC Jr l S).run cl (fun e' H' => κ ((nrmC (opsS' l S) J).run e') H') kr.np e H⟩
  | .seq a b, an, S, J, Γ => match an with
    | .p bn => match a with
      | .ops l => ⟨fun cl κ kx kr e H => (opsC Jr l S).run cl (fun e' H' => (comp Jr b bn (opsS' l S) J Γ).run cl κ kx kr e' H') kr e H⟩
      | .dops l => ⟨fun cl κ kx kr e H => (opsC Jr l S).run cl (fun e' H' => (comp Jr b bn (opsS' l S) J Γ).run cl κ kx kr e' H') kr.np e H⟩
      | .skip => comp Jr b bn S J Γ
      | _ => clBad S J Γ Jr
    | .g xn bn J1 => match a with
      | .cond g .skip x => ⟨fun cl κ kx kr e H => bK ((opd S g).run e) .bad ((comp Jr b bn S J Γ).run cl κ kx kr e H) ((comp Jr x xn S J1 Γ).run cl (fun e' H' => (comp Jr b bn J1 J Γ).run cl κ kx kr e' H') kx kr e H)⟩
      | _ => clBad S J Γ Jr
    | .h xn bn J1 => match a with
      | .cond g x .skip => ⟨fun cl κ kx kr e H => bK ((opd S g).run e) .bad ((comp Jr x xn S J1 Γ).run cl (fun e' H' => (comp Jr b bn J1 J Γ).run cl κ kx kr e' H') kx kr e H) ((comp Jr b bn S J Γ).run cl κ kx kr e H)⟩
      | _ => clBad S J Γ Jr
    | .s an bn J1 => ⟨fun cl κ kx kr e H => (comp Jr a an S J1 Γ).run cl (fun e' H' => (comp Jr b bn J1 J Γ).run cl κ kx kr e' H') kx kr e H⟩
    | _ => clBad S J Γ Jr
  | .cond g a b, an, S, J, Γ => match an with
    | .c an bn => ⟨fun cl κ kx kr e H => bK ((opd S g).run e) .bad ((comp Jr a an S J Γ).run cl κ kx kr e H) ((comp Jr b bn S J Γ).run cl κ kx kr e H)⟩
    | _ => clBad S J Γ Jr
  | .block id a, an, S, J, Γ => match an with
    | .b an => ⟨fun cl κ kx kr e H => (comp Jr a an S J ((id, J) :: Γ)).run cl κ (KX.cons id κ kx) kr e H⟩
    | _ => clBad S J Γ Jr
  | .loop keep a, an, S, J, Γ => match an with
    | .l N an => ⟨fun cl _ kx kr e H => (kpC S N keep).run e fun e0 => lpZ (fun ih e1 H1 => (comp Jr a an (keep ++ N) keep Γ).run cl (fun e' H' => (kpC keep N keep).run e' fun e2 => ih e2 H') kx kr e1 H1) 1000000 e0 H⟩
    | _ => clBad S J Γ Jr
  | .exit id, _, S, _, Γ => ⟨fun _ _ kx _ e H => (exC id S Γ).run kx e H⟩
  | .ret, _, S, _, _ => ⟨fun _ _ _ kr e H => kr.r ((nrmC S Jr).run e) H⟩
  | .dfr s f cap rs body clo, an, S, J, Γ => match an with
    | .d an bn N => ⟨fun cl _ _ kr e H => (argC S cap).run e fun cs =>
      (fun (back : V → E Jr → ZH → FR) => (comp Jr body an (s :: S) Jr []).run cl (fun e' H' => back .nc e' H') KX.none ⟨fun e' H' => back .nc e' H', back⟩ (E.cons s (.fn f cs) e) H)
      (fun v e' H' => (inC N cap.length 0).run cs fun ec => (comp Jr clo bn (rs :: iotN cap.length 0 N) [] []).run cl (fun _ H'' => kr.r e' H'') KX.none ⟨fun _ H'' => kr.r e' H'', fun _ _ _ => .bad⟩ (E.cons rs v ec) H')⟩
    | _ => clBad S J Γ Jr

theorem exX_none {q : Pr} {o : Option Out} : ExX KX.none q o := fun _ _ _ _ _ _ _ _ => q.bad

theorem comp_ok {cl : ZCaller} (hcl : AgrZ cl (evC Φ)) (Jr : List Nat) : ∀ (c : ACode) (an : An) (S J : List Nat) (Γ : List (Nat × List Nat)) (e : E S) (x : Env) (H : ZH) (κ : E J → ZH → FR) (kx : KX Γ) (kr : KR Jr) (q : Pr), H.ok → Rel S e x →
    Go1 κ q (evX Φ c x H.heap) → ExX kx q (evX Φ c x H.heap) → RetX kr q (evX Φ c x H.heap) → Pan1 kr q (evX Φ c x H.heap) → Agr ((comp Jr c an S J Γ).run cl κ kx kr e H) q
  | .skip, _, S, J, _, e, x, H, κ, kx, kr, q, hH, h, hg, hx, hr, hp => by
    rw [evX_skip] at hg
    exact hg _ x H hH rfl (rel_nrm h J)
  | .ops l, _, S, J, _, e, x, H, κ, kx, kr, q, hH, h, hg, hx, hr, hp => by
    rw [evX_ops] at hg hp
    exact opsC_ok hcl l S e x H _ kr q hH h (fun e' x' H' hH' ho hrel => hg _ x' H' hH' ho (rel_nrm hrel J)) hp
  | .dops l, _, S, J, _, e, x, H, κ, kx, kr, q, hH, h, hg, hx, hr, hp => by
    rw [evX_dops] at hg
    exact opsC_ok hcl l S e x H _ kr.np q hH h (fun e' x' H' hH' ho hrel => hg _ x' H' hH' (by rw [ho]) (rel_nrm hrel J)) (fun _ _ _ _ _ _ _ _ => q.bad)
  | .seq a b, an, S, J, Γ, e, x, H, κ, kx, kr, q, hH, h, hg, hx, hr, hp => by
    have hs := evX_seq (Φ := Φ) a b x H.heap
    have toB : ∀ x' H', evX Φ a x H.heap = some (.go .nrm x' H') → evX Φ (.seq a b) x H.heap = evX Φ b x' H' := fun x' H' ha => by rw [hs, ha]
    have notN : ∀ o, evX Φ a x H.heap = some o → (∀ x' H', o ≠ .go .nrm x' H') → evX Φ (.seq a b) x H.heap = some o := fun o ha hn => by
      rw [hs, ha]
      rcases o with ⟨w, e', H'⟩ | ⟨v, e', H'⟩
      · cases w
        · exact absurd rfl (hn e' H')
        · rfl
        · rfl
      · rfl
    have bOK : ∀ bn S1 (e1 : E S1) x1 H1, H1.ok → Rel S1 e1 x1 → evX Φ a x H.heap = some (.go .nrm x1 H1.heap) → Agr ((comp Jr b bn S1 J Γ).run cl κ kx kr e1 H1) q := fun bn S1 e1 x1 H1 hok hrel ha => by
      have ht := toB x1 H1.heap ha
      refine comp_ok hcl Jr b bn S1 J Γ e1 x1 H1 κ kx kr q hok hrel ?_ ?_ ?_ ?_
      · rw [← ht]; exact hg
      · rw [← ht]; exact hx
      · rw [← ht]; exact hr
      · rw [← ht]; exact hp
    have exA : ∀ o, evX Φ a x H.heap = o → ExX kx q o := fun o ho id S' e' x' H' hok hoo hrel => hx id S' e' x' H' hok (notN _ (ho.trans hoo) (fun _ _ hc => by cases hc)) hrel
    have reA : ∀ o, evX Φ a x H.heap = o → RetX kr q o := fun o ho e' x' H' hok hoo hrel => hr e' x' H' hok (notN _ (ho.trans hoo) (fun _ _ hc => by cases hc)) hrel
    have paA : ∀ o, evX Φ a x H.heap = o → Pan1 kr q o := fun o ho v er x' H' hok hoo hv hrel => hp v er x' H' hok (notN _ (ho.trans hoo) (fun _ _ hc => by cases hc)) hv hrel
    cases an with
    | p bn =>
      cases a with
      | ops l => exact opsC_ok hcl l S e x H _ kr q hH h (fun e' x' H' hH' ho hrel => bOK bn _ e' x' H' hH' hrel ((evX_ops l x H.heap).trans ho)) (paA _ (evX_ops l x H.heap))
      | dops l => exact opsC_ok hcl l S e x H _ kr.np q hH h (fun e' x' H' hH' ho hrel => bOK bn _ e' x' H' hH' hrel (by rw [evX_dops, ho])) (fun _ _ _ _ _ _ _ _ => q.bad)
      | skip => exact bOK bn S e x H hH h (evX_skip x H.heap)
      | _ => exact q.bad
    | g xn bn J1 =>
      cases a with
      | cond g y z =>
        cases y with
        | skip =>
          refine bK_ok (P := fun r => Agr r q) (opd_val h g) q.bad (fun ht => bOK bn S e x H hH h (by rw [evX_cond, ht]; exact evX_skip x H.heap)) (fun ht => ?_)
          have hc : evX Φ (.cond g .skip z) x H.heap = evX Φ z x H.heap := by rw [evX_cond, ht]
          exact comp_ok hcl Jr z xn S J1 Γ e x H _ kx kr q hH h (fun e' x' H' hH' ho hrel => bOK bn J1 e' x' H' hH' hrel (hc.trans ho)) (exA _ hc) (reA _ hc) (paA _ hc)
        | _ => exact q.bad
      | _ => exact q.bad
    | h xn bn J1 =>
      cases a with
      | cond g z y =>
        cases y with
        | skip =>
          refine bK_ok (P := fun r => Agr r q) (opd_val h g) q.bad (fun ht => ?_) (fun ht => bOK bn S e x H hH h (by rw [evX_cond, ht]; exact evX_skip x H.heap))
          have hc : evX Φ (.cond g z .skip) x H.heap = evX Φ z x H.heap := by rw [evX_cond, ht]
          exact comp_ok hcl Jr z xn S J1 Γ e x H _ kx kr q hH h (fun e' x' H' hH' ho hrel => bOK bn J1 e' x' H' hH' hrel (hc.trans ho)) (exA _ hc) (reA _ hc) (paA _ hc)
        | _ => exact q.bad
      | _ => exact q.bad
    | s an bn J1 => exact comp_ok hcl Jr a an S J1 Γ e x H _ kx kr q hH h (fun e' x' H' hH' ho hrel => bOK bn J1 e' x' H' hH' hrel ho) (exA _ rfl) (reA _ rfl) (paA _ rfl)
    | _ => exact q.bad
  | .cond g a b, an, S, J, Γ, e, x, H, κ, kx, kr, q, hH, h, hg, hx, hr, hp => by
    rw [evX_cond] at hg hx hr hp
    cases an with
    | c an bn =>
      refine bK_ok (P := fun r => Agr r q) (opd_val h g) q.bad (fun ht => ?_) (fun ht => ?_)
      · rw [ht] at hg hx hr hp
        exact comp_ok hcl Jr a an S J Γ e x H κ kx kr q hH h hg hx hr hp
      · rw [ht] at hg hx hr hp
        exact comp_ok hcl Jr b bn S J Γ e x H κ kx kr q hH h hg hx hr hp
    | _ => exact q.bad
  | .block id a, an, S, J, Γ, e, x, H, κ, kx, kr, q, hH, h, hg, hx, hr, hp => by
    have hb := evX_block (Φ := Φ) id a x H.heap
    cases an with
    | b an =>
      refine comp_ok hcl Jr a an S J ((id, J) :: Γ) e x H κ (KX.cons id κ kx) kr q hH h ?_ ?_ ?_ ?_
      · exact fun e' x' H' hH' ho hrel => hg e' x' H' hH' (by rw [hb, ho]) hrel
      · refine exX_cons hx id (fun e' x' H' hH' ho hrel => hg e' x' H' hH' (by rw [hb, ho]; exact if_pos rfl) hrel) fun i x' H' hi ho => ?_
        rw [hb, ho]; exact if_neg hi
      · exact fun e' x' H' hH' ho hrel => hr e' x' H' hH' (by rw [hb, ho]) hrel
      · exact fun v er x' H' hH' ho hv hrel => hp v er x' H' hH' (by rw [hb, ho]) hv hrel
    | _ => exact q.bad
  | .loop keep a, an, S, J, Γ, e, x, H, κ, kx, kr, q, hH, h, hg, hx, hr, hp => by
    cases an with
    | l N an =>
      have key : ∀ (n : Nat) (e0 : E (keep ++ N)) (x0 : Env) (H0 : ZH), H0.ok → Rel (keep ++ N) e0 (keepS keep x0) → ExX kx q (evX Φ (.loop keep a) x0 H0.heap) → RetX kr q (evX Φ (.loop keep a) x0 H0.heap) → Pan1 kr q (evX Φ (.loop keep a) x0 H0.heap) →
          Agr (lpZ (fun ih e1 H1 => (comp Jr a an (keep ++ N) keep Γ).run cl (fun e' H' => (kpC keep N keep).run e' fun e2 => ih e2 H') kx kr e1 H1) n e0 H0) q := by
        intro n
        induction n with
        | zero => intros; exact q.bad
        | succ n ih =>
          intro e0 x0 H0 hH0 hrel hx hr hp
          have hl := evX_loop (Φ := Φ) keep a x0 H0.heap
          have notN : ∀ o, evX Φ a (keepS keep x0) H0.heap = some o → (∀ x' H', o ≠ .go .nrm x' H') → evX Φ (.loop keep a) x0 H0.heap = some o := fun o ha hn => by
            rw [hl, ha]
            rcases o with ⟨w, e', H'⟩ | ⟨v, e', H'⟩
            · cases w
              · exact absurd rfl (hn e' H')
              · rfl
              · rfl
            · rfl
          refine comp_ok hcl Jr a an (keep ++ N) keep Γ e0 (keepS keep x0) H0 _ kx kr q hH0 hrel ?_ ?_ ?_ ?_
          · intro e' x' H' hH' ho hrel'
            have ht : evX Φ (.loop keep a) x0 H0.heap = evX Φ (.loop keep a) x' H'.heap := by rw [hl, ho]
            rw [ht] at hx hr hp
            exact kpC_ok hrel' keep fun e2 hrel2 => ih e2 x' H' hH' hrel2 hx hr hp
          · exact fun id S' e' x' H' hok ho hrel => hx id S' e' x' H' hok (notN _ ho (fun _ _ hc => by cases hc)) hrel
          · exact fun e' x' H' hok ho hrel => hr e' x' H' hok (notN _ ho (fun _ _ hc => by cases hc)) hrel
          · exact fun v er x' H' hok ho hv hrel => hp v er x' H' hok (notN _ ho (fun _ _ hc => by cases hc)) hv hrel
      exact kpC_ok h keep fun e0 hrel => key 1000000 e0 x H hH hrel hx hr hp
    | _ => exact q.bad
  | .exit id, _, S, J, Γ, e, x, H, κ, kx, kr, q, hH, h, hg, hx, hr, hp => by
    rw [evX_exit] at hx
    exact hx id S e x H hH rfl h
  | .ret, _, S, J, Γ, e, x, H, κ, kx, kr, q, hH, h, hg, hx, hr, hp => by
    rw [evX_ret] at hr
    exact hr _ x H hH rfl (rel_nrm h Jr)
  | .dfr s f cap rs body clo, an, S, J, Γ, e, x, H, κ, kx, kr, q, hH, h, hg, hx, hr, hp => by
    cases an with
    | d an bn N =>
      refine argC_ok h cap fun cs vs hvs hcs => ?_
      have hd : evX Φ (.dfr s f cap rs body clo) x H.heap = dfrS (fun v H' => evX Φ clo ((rs, .v v) :: initEnv 0 vs) H') (evX Φ body ((s, .v (.fn f vs)) :: x) H.heap) := by rw [evX_dfr, hvs]
      rw [hd] at hr
      have back : ∀ (v : V) (e' : E Jr) (x' : Env) (H' : ZH), H'.ok → v.pv = some v.av → Rel Jr e' x' → dfrS (fun v H' => evX Φ clo ((rs, .v v) :: initEnv 0 vs) H') (evX Φ body ((s, .v (.fn f vs)) :: x) H.heap) = backS x' (evX Φ clo ((rs, .v v.av) :: initEnv 0 vs) H'.heap) →
          Agr ((inC N cap.length 0).run cs fun ec => (comp Jr clo bn (rs :: iotN cap.length 0 N) [] []).run cl (fun _ H'' => kr.r e' H'') KX.none ⟨fun _ H'' => kr.r e' H'', fun _ _ _ => .bad⟩ (E.cons rs v ec) H') q := fun v e' x' H' hH' hv hrel hback => by
        refine inC_rel _ cs fun hl ec hec => ?_
        rw [hback] at hr
        rw [hcs] at hec
        have done : ∀ (w : Ex) (x2 : Env) (H2 : ZH), (w = .nrm ∨ w = .ret) → H2.ok → evX Φ clo ((rs, .v v.av) :: initEnv 0 vs) H'.heap = some (.go w x2 H2.heap) → Agr (kr.r e' H2) q := fun w x2 H2 hw hH2 ho => by
          refine hr e' x' H2 hH2 ?_ hrel
          rw [ho]
          rcases hw with rfl | rfl <;> rfl
        exact comp_ok hcl Jr clo bn _ [] [] _ _ H' _ KX.none _ q hH' (rel_cons hec rs (pv_den hv)) (fun _ x2 H2 hH2 ho _ => done .nrm x2 H2 (.inl rfl) hH2 ho) exX_none (fun _ x2 H2 hH2 ho _ => done .ret x2 H2 (.inr rfl) hH2 ho) (fun _ _ _ _ _ _ _ _ => q.bad)
      refine comp_ok hcl Jr body an (s :: S) Jr [] _ ((s, .v (.fn f vs)) :: x) H _ KX.none _ q hH (rel_cons h s (by show Sl.v _ = .v (.fn f cs.cl); rw [hcs])) ?_ exX_none ?_ ?_
      · exact fun e' x' H' hH' ho hrel => back .nc e' x' H' hH' rfl hrel (by rw [ho]; rfl)
      · exact fun e' x' H' hH' ho hrel => back .nc e' x' H' hH' rfl hrel (by rw [ho]; rfl)
      · exact fun v er x' H' hH' ho hv hrel => back v er x' H' hH' hv hrel (by rw [ho]; rfl)
    | _ => exact q.bad
end
end Ey
